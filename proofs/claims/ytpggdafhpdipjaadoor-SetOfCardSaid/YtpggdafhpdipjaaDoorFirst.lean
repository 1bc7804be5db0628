/-
  Package set: each, First, List.
-/
import Derived.Test.YtpggdafhpdipjaaDoorSeq
import Derived.RangeFuncBox
import Derived.Maps.AppendAt
set_option linter.unusedVariables false
namespace Go.Proofs.YtpggdafhpdipjaaDoor.Sets
open Go.RowKit Go.Shelf Go.Proofs.YtpggdafhpdipjaaDoor.Own
attribute [local go_sem] Oper.semAt_some

theorem each_is (s : Nat) (w : World) :
    Calls Tryd.prog 18 #[.int .u64 s] w fun e w' => e = .returned (.func (.func 21) #[] #[.pointer (some ⟨w.heap.size, 0, none⟩)]) ∧ w' = w.alloc (.cells #[.int .u64 s] 24) := by
  go_enter Tryd.func18, Tryd.ntmps18
  go_wp2_with fail
  go_ret
  exact ⟨rfl, rfl⟩

theorem kept_grown {w W W' : World} {row : Option Nat} {B Bx : Nat} (hk : Kept No w W) (hg : W.grownBy W' row) (hr : ∀ r, row = some r → r = Bx ∨ (B ≤ r ∧ ∃ o : Obj, W.heap[r]? = some o ∧ o.isCells = false)) (hB : w.heap.size ≤ B) (hx : w.heap.size ≤ Bx) : Kept No w W' :=
  hk.grown hg fun k hk e => by rcases hr k e with h | h <;> omega
theorem box_grown {W W' : World} {row : Option Nat} {B Bx b : Nat} {cs : Array Value} {t : TypeId} (h : Box W b cs t) (hg : W.grownBy W' row) (hr : ∀ r, row = some r → r = Bx ∨ (B ≤ r ∧ ∃ o : Obj, W.heap[r]? = some o ∧ o.isCells = false)) (hb : b ≠ Bx) (hB : b < B) : Box W' b cs t :=
  (hg.block b h.lt (fun e => by rcases hr b e.symm with h | h <;> omega)).trans h

theorem box_set {W : World} {b : Nat} {v : Value} {t : TypeId} (h : Box W b #[v] t) (u : Value) : Box (W.setCell ⟨b, 0, none⟩ u) b #[u] t := heap_setCell_box_a u h
theorem box_other {W : World} {b : Nat} {cs : Array Value} {t : TypeId} (h : Box W b cs t) (a : Addr) (u : Value) (hb : b ≠ a.block) : Box (W.setCell a u) b cs t := (Below.heap_setCell _ _ _ _ hb).trans h

def FirstOk (s : Nat) (x : Int) (b : Bool) : Prop := (s = 0 ∧ x = 0 ∧ b = false) ∨ (s ≠ 0 ∧ x = (Lib.ctz 64 s : Int) ∧ b = true)
def FirstPost (s : Nat) (w : World) (e : Ending) (w' : World) : Prop := ∃ x b, FirstOk s x b ∧ e = .returned (.tuple #[.int .i64 x, .bool b]) ∧ Kept No w w'
theorem first_empty {s : Nat} (hs : s < 18446744073709551616) (h : mem s = []) : FirstOk s 0 false := by
  by_cases h0 : s = 0
  · exact .inl ⟨h0, rfl, rfl⟩
  · rw [mem_step s h0 hs] at h; cases h
theorem first_some {s : Nat} (hs : s < 18446744073709551616) {x : Int} (h : [x] <+: mem s) : FirstOk s x true := by
  obtain ⟨t, ht⟩ := h
  by_cases h0 : s = 0
  · subst h0; rw [mem_zero] at ht; simp at ht
  · rw [mem_step s h0 hs] at ht
    simp only [List.cons_append, List.nil_append, List.cons.injEq] at ht
    exact .inr ⟨h0, ht.1, rfl⟩

set_option maxRecDepth 100000 in
set_option maxHeartbeats 2000000 in
theorem first_is (s : Nat) (hs : s < 18446744073709551616) (w : World) (hT : Door.Tabs w) (h0w : 0 < w.heap.size) :
    Calls Tryd.prog 15 #[.int .u64 s] w (FirstPost s w) := by
  refine (callsIn_wide (n := 4)).1 ?_
  refine callsIn_of_wp_marks Tryd.func15 rfl trivial ?_ rfl
  simp only [Tryd.ntmps15, List.size_toArray, List.length_cons, List.length_nil, Nat.reduceAdd, Nat.reduceSub, Array.replicate_succ, Array.replicate_zero, List.push_toArray, List.append_toArray, List.nil_append, List.cons_append]
  gi_wp2_with (first | (refine ⟨trivial, ?_⟩; gi_at_call 18; refine (callsIn_wide.2 (each_is s _)).mono ?_; rintro e w' ⟨rfl, rfl⟩))
  obtain ⟨W0, hW0⟩ : ∃ W0, ((w.alloc (.cells #[.int .i64 0] 3)).alloc (.cells #[.bool false] 4)).alloc (.cells #[.int .u64 s] 24) = W0 := ⟨_, rfl⟩
  have hs0 : W0.heap.size = w.heap.size + 1 + 1 + 1 := by rw [← hW0]; simp
  have k0 : Kept No w W0 := by rw [← hW0]; exact (((Kept.refl No w).alloc _).alloc _).alloc _
  have b1 : Box W0 w.heap.size #[.int .i64 0] 3 := by rw [← hW0]; exact ((Box.new w _ _).alloc _).alloc _
  have b2 : Box W0 (w.heap.size + 1) #[.bool false] 4 := by
    rw [← hW0]; have := (Box.new (w.alloc (.cells #[.int .i64 0] 3)) #[.bool false] 4).alloc (.cells #[.int .u64 s] 24); rwa [World.size_alloc] at this
  have b3 : Box W0 (w.heap.size + 1 + 1) #[.int .u64 s] 24 := by
    rw [← hW0]; have := Box.new ((w.alloc (.cells #[.int .i64 0] 3)).alloc (.cells #[.bool false] 4)) #[.int .u64 s] 24; rwa [World.size_alloc, World.size_alloc] at this
  rw [hW0]
  clear hW0
  refine range_each 4 (by omega) (w.heap.size + 1 + 1) rfl rfl s hs (by omega) (by omega) b3 (hT.kept k0 id) (by omega)
    (fun pre W => pre = [] ∧ Box W w.heap.size #[.int .i64 0] 3 ∧ Box W (w.heap.size + 1) #[.bool false] 4 ∧ Kept No w W)
    (fun c pre W => c = .ret ∧ ∃ x, pre = [x] ∧ Box W w.heap.size #[.int .i64 x] 3 ∧ Box W (w.heap.size + 1) #[.bool true] 4 ∧ Kept No w W)
    ⟨fun t A B row ⟨e, h1, h2, h3⟩ hg hr => ⟨e, box_grown (Bx := w.heap.size + 1 + 1) h1 hg (fun r e => .inr (hr r e)) (by omega) (by omega), box_grown (Bx := w.heap.size + 1 + 1) h2 hg (fun r e => .inr (hr r e)) (by omega) (by omega), kept_grown (Bx := w.heap.size + 1 + 1) h3 hg (fun r e => .inr (hr r e)) (by omega) (by omega)⟩,
      fun v ⟨e, h1, h2, h3⟩ => ⟨e, box_other h1 _ _ (by simp only []; omega), box_other h2 _ _ (by simp only []; omega), h3.setCell (fun h => by simp at h; omega) _⟩⟩
    (fun c t A B row ⟨e, x, h0, h1, h2, h3⟩ hg hr => ⟨e, x, h0, box_grown (Bx := w.heap.size + 1 + 1) h1 hg (fun r e => .inr (hr r e)) (by omega) (by omega), box_grown (Bx := w.heap.size + 1 + 1) h2 hg (fun r e => .inr (hr r e)) (by omega) (by omega), kept_grown (Bx := w.heap.size + 1 + 1) h3 hg (fun r e => .inr (hr r e)) (by omega) (by omega)⟩)
    ⟨rfl, b1, b2, k0⟩
    (fun x => { tmps := #[.int .u64 s, undef, .pointer (some ⟨w.heap.size, 0, none⟩), .pointer (some ⟨w.heap.size + 1, 0, none⟩), .int .i64 x, .int .u64 s, .func (.func 21) #[] #[.pointer (some ⟨w.heap.size + 1 + 1, 0, none⟩)], .int .i64 x, undef], defers := [] }) ?assign ?body ?done ?stop
  case assign =>
    intro l x W K hK
    gi_wp2
    exact hK
  case body =>
    rintro l pre x W ⟨rfl, h1, h2, h3⟩ _
    have c1 := h1.cell 0
    have f1 := h1.frozen 0
    have c2 := h2.cell 0
    have f2 := h2.frozen 0
    simp only [List.getElem?_toArray, List.getElem?_cons_zero] at c1 c2
    gi_wp2
    refine ⟨((KeepsOthers.setCell _ _ _).trans (KeepsOthers.setCell _ _ _)).from _, rfl, x, rfl, box_other (box_set h1 _) _ _ (by simp), box_set (box_other h2 _ _ (by simp)) _, (h3.setCell (fun h => by simp at h) _).setCell (fun h => by simp at h; omega) _⟩
  case done =>
    rintro D W hD ⟨hm, h1, h2, h3⟩ hK
    have c1 := h1.cell 0
    have f1 := h1.frozen 0
    have c2 := h2.cell 0
    have f2 := h2.frozen 0
    simp only [List.getElem?_toArray, List.getElem?_cons_zero] at c1 c2
    gi_wp2
    have g1 := box_other (box_set h1 (.int .i64 0)) ⟨w.heap.size + 1, 0, none⟩ (.bool false) (by simp)
    have g2 := box_set (box_other h2 ⟨w.heap.size, 0, none⟩ (.int .i64 0) (by simp)) (.bool false)
    have g3 : Kept No w ((W.setCell ⟨w.heap.size, 0, none⟩ (.int .i64 0)).setCell ⟨w.heap.size + 1, 0, none⟩ (.bool false)) := (h3.setCell (fun h => by simp at h) _).setCell (fun h => by simp at h; omega) _
    have hK' : ((W.setCell ⟨w.heap.size, 0, none⟩ (.int .i64 0)).setCell ⟨w.heap.size + 1, 0, none⟩ (.bool false)).heap[D]? = some (.deferred (some [])) :=
      (Below.heap_setCell _ _ _ _ (by simp only [ne_eq]; omega)).trans ((Below.heap_setCell _ _ _ _ (by simp only [ne_eq]; omega)).trans hK)
    generalize (W.setCell ⟨w.heap.size, 0, none⟩ (.int .i64 0)).setCell ⟨w.heap.size + 1, 0, none⟩ (.bool false) = W5 at *
    refine ⟨by simp, .inl ⟨_, _, rfl, run_takeDeferred hK', ?_⟩⟩
    have p1 := (show Box (W5.putObj D (.deferred none)) w.heap.size #[.int .i64 0] 3 from (World.putObj_heap_other (by omega)).trans g1).cell 0
    have p2 := (show Box (W5.putObj D (.deferred none)) (w.heap.size + 1) #[.bool false] 4 from (World.putObj_heap_other (by omega)).trans g2).cell 0
    simp only [List.getElem?_toArray, List.getElem?_cons_zero] at p1 p2
    refine ⟨_, by simp [results, Tryd.results15, go_sem, p1, p2], _, _, first_empty hs hm, rfl, ?_⟩
    exact g3.trans (T := fun k => k = D) ⟨rfl, rfl, rfl, by simp, fun k _ hk => World.putObj_heap_other (fun e => hk e)⟩ (fun k hk e => by omega)
  case stop =>
    rintro D c pre W hD hp ⟨rfl, x, rfl, h1, h2, h3⟩ hK
    gi_wp2
    refine ⟨by simp, .inl ⟨_, _, rfl, run_takeDeferred hK, ?_⟩⟩
    have p1 := (show Box (W.putObj D (.deferred none)) w.heap.size #[.int .i64 x] 3 from (World.putObj_heap_other (by omega)).trans h1).cell 0
    have p2 := (show Box (W.putObj D (.deferred none)) (w.heap.size + 1) #[.bool true] 4 from (World.putObj_heap_other (by omega)).trans h2).cell 0
    simp only [List.getElem?_toArray, List.getElem?_cons_zero] at p1 p2
    refine ⟨_, by simp [results, Tryd.results15, go_sem, p1, p2], _, _, first_some hs hp, rfl, ?_⟩
    exact h3.trans (T := fun k => k = D) ⟨rfl, rfl, rfl, by simp, fun k _ hk => World.putObj_heap_other (fun e => hk e)⟩ (fun k hk e => by omega)

theorem info_int : (Tryd.prog.info? 3).map (fun i => (i.zero, i.size, i.bytes)) = some (some (.int .i64 0), 1, 8) := by kernel_rfl
def iv (x : Int) : Value := .int .i64 x

/-- What a list handed back is: a row of the call's own. -/
def ListPost (s : Nat) (w : World) (e : Ending) (w' : World) : Prop := ∃ v, e = .returned v ∧ w'.ownsRow w.heap.size 3 1 v (mem s).length ((mem s).map iv) ∧ Kept No w w'

set_option maxRecDepth 100000 in
set_option maxHeartbeats 2000000 in
theorem append_is (s : Nat) (hs : s < 18446744073709551616) (Bx : Nat) (hBx : Bx ≠ 0) (w : World) (hB : Box w Bx #[.int .u64 s] 24) (hT : Door.Tabs w) (w0 : World) (hw : w0.heap.size ≤ w.heap.size) (hk0 : Kept No w0 w) (h0w : 0 < w0.heap.size) (hBl : w0.heap.size ≤ Bx) :
    Calls Tryd.prog 20 #[.slice none 0 0, .func (.func 21) #[] #[.pointer (some ⟨Bx, 0, none⟩)]] w (ListPost s w0) := by
  obtain ⟨i0, hi, hz0, hz1, hz2⟩ := info_parts info_int
  refine (callsIn_wide (n := 4)).1 ?_
  refine callsIn_of_wp_marks Tryd.func20 rfl trivial ?_ rfl
  simp only [Tryd.ntmps20, List.size_toArray, List.length_cons, List.length_nil, Nat.reduceAdd, Nat.reduceSub, Array.replicate_succ, Array.replicate_zero, List.push_toArray, List.append_toArray, List.nil_append, List.cons_append]
  gi_wp2
  obtain ⟨W0, hW0⟩ : ∃ W0, w.alloc (.cells #[.slice none 0 0] 22) = W0 := ⟨_, rfl⟩
  have hs0 : W0.heap.size = w.heap.size + 1 := by rw [← hW0]; simp
  have k0 : Kept No w W0 := by rw [← hW0]; exact (Kept.refl No w).alloc _
  have b1 : Boxed W0 w.heap.size 22 (.slice none 0 0) := by rw [← hW0]; exact Boxed.new w _ _
  have hBlt := hB.lt
  have b3 : Box W0 Bx #[.int .u64 s] 24 := hB.kept k0 id
  rw [hW0]
  clear hW0
  refine range_each 4 (by omega) Bx rfl rfl s hs hBx (by omega) b3 (hT.kept k0 id) (by omega)
    (fun pre W => (∃ v, Boxed W w.heap.size 22 v ∧ W.ownsRow w0.heap.size 3 1 v pre.length (pre.map iv)) ∧ (∃ r, Boxed W Bx 24 r) ∧ Kept No w0 W ∧ w0.heap.size ≤ W.heap.size)
    (fun c pre W => False)
    ⟨?own, ?box⟩
    (fun c t A B row h _ _ => h)
    ⟨⟨_, b1, World.ownsRow_nil _ _ _ _⟩, ⟨_, b3⟩, hk0.trans k0 (fun _ _ f => f), by omega⟩
    (fun x => { tmps := #[.slice none 0 0, .func (.func 21) #[] #[.pointer (some ⟨Bx, 0, none⟩)], .pointer (some ⟨w.heap.size, 0, none⟩), undef, .slice none 0 0, .int .i64 x, .func (.func 21) #[] #[.pointer (some ⟨Bx, 0, none⟩)], .int .i64 x, undef, undef, undef, undef, undef], defers := [] }) ?assign ?body ?done ?stop
  case own =>
    rintro t A B row ⟨⟨v, h1, h2⟩, ⟨r, h3⟩, h4, h5⟩ hg hr
    obtain ⟨v', h1', h2', _⟩ := holdsRow_own (β := List Int) w0.heap.size w.heap.size 22 3 1 (fun t => t.length) (fun t => t.map iv) (fun _ _ => True) t A B row ⟨v, h1, h2, trivial⟩ hg (fun r e => (hr r e).2)
    refine ⟨⟨v', h1', h2'⟩, ⟨r, h3.kept hg (fun e => ?_)⟩, h4.grown hg (fun k hk e => by have := (hr k e).1; omega), Nat.le_trans h5 hg.size⟩
    obtain ⟨_, o, ho, hc⟩ := hr Bx e.symm
    rw [show A.heap[Bx]? = _ from h3] at ho; cases ho; cases hc
  case box =>
    rintro t W v ⟨⟨v', h1, h2⟩, ⟨r, h3⟩, h4, h5⟩
    refine ⟨⟨v', h1.kept (grownBy_setCell' W Bx v) (fun e => by cases e; omega), h2.kept (grownBy_setCell' W Bx v) (.inr (h3.not_row (by decide) h2).symm)⟩, ⟨v, h3.set v⟩, h4.setCell (fun h => by simp at h; omega) _, by simpa using h5⟩
  case assign =>
    intro l x W K hK
    gi_wp2
    exact hK
  case body =>
    rintro l pre x W ⟨⟨v, hv, hrow⟩, ⟨r, h3⟩, h4, h5⟩ hp
    have hlen : (pre ++ [x]).length ≤ 64 := by
      have h1 := hp.length_le
      have h2 := mem_len s
      have h6 : cnt 64 s ≤ 64 := by
        unfold cnt
        have := List.countP_le_length (p := fun i => s.testBit i) (l := List.range 64)
        simpa using this
      omega
    simp only [List.length_append, List.length_cons, List.length_nil] at hlen
    have c1 := hv.cell
    have f1 := hv.frozen
    have hlt := h3.lt
    have hlt2 := hv.lt
    gi_wp2_with (first
      | (gi_at_builtin; refine wpListIn_append_own _ rfl _ _ 22 rfl w0.heap.size 3 i0 (.int .i64 0) 1 8 Tryd.underlying22 hi hz0 hz1 hz2 rfl (by decide) _ _ _ rfl (hrow.alloc _) ⟨W.heap.size, 0, none⟩ 1 1 [iv x] rfl rfl (cell_one_new _ _ _) (by simp [Value.oneCell', iv]) (by unfold maxLen; omega) (by omega) (by simp; omega) ?_; intro v' w1 hown' hgrow _; obtain ⟨g', cap', rfl⟩ := ownsRow_succ hown'; obtain ⟨hv1, hv2, hr2, hk2, hb2⟩ := hv.appended (by decide) hrow h5 hw hown' hgrow; have hc1 := hv1.cell; have hf1 := hv1.frozen))
    have hg : (W.alloc (.cells #[iv x] 3)).grownBy w1 v.ownBlock := hgrow
    have hx : (w1.setCell ⟨w.heap.size, 0, none⟩ (.slice (some ⟨g', 0, none⟩) (pre.length + 1) cap')).heap[Bx]? = W.heap[Bx]? :=
      (Below.heap_setCell _ _ _ _ (by simp only [ne_eq]; omega)).trans ((hg.block Bx (by simp; omega) (h3.not_row (by decide) hrow)).trans (Below.heap_alloc _ _ _ hlt))
    refine ⟨hk2.from _, ⟨hx, fun i => hb2.cell (p := ⟨0, i, none⟩) h0w⟩, ⟨_, hv2, by simpa using hr2⟩, ⟨r, hx.trans h3⟩, ⟨hb2.os.trans h4.os, hb2.tape.trans h4.tape, hb2.output.trans h4.output, Nat.le_trans h5 hb2.size, fun k hk _ => (hb2.block k hk).trans (h4.block k hk id)⟩, Nat.le_trans h5 hb2.size⟩
  case done =>
    rintro D W hD ⟨⟨v, hv, hrow⟩, ⟨r, h3⟩, h4, h5⟩ hK
    have c1 := hv.cell
    have f1 := hv.frozen
    gi_wp2
    refine ⟨by simp, .inl ⟨_, _, rfl, run_takeDeferred hK, ?_⟩⟩
    exact ⟨_, results_tmp rfl _ _ _, v, rfl, ownsRow_putObj hrow _ hK rfl, h4.trans (T := fun k => k = D) ⟨rfl, rfl, rfl, by simp, fun k _ hk => World.putObj_heap_other (fun e => hk e)⟩ (fun k hk e => by omega)⟩
  case stop =>
    rintro D c pre W _ _ h _
    exact h.elim

theorem list_is (s : Nat) (hs : s < 18446744073709551616) (w : World) (hT : Door.Tabs w) (h0w : 0 < w.heap.size) :
    Calls Tryd.prog 10 #[.int .u64 s] w (ListPost s w) := by
  go_enter Tryd.func10, Tryd.ntmps10
  go_wp2_with fail
  refine (each_is s _).mono ?_
  rintro e w' ⟨rfl, rfl⟩
  have hk := (Kept.refl No w).alloc (.cells #[.int .u64 s] 24)
  have hb := Box.new w #[.int .u64 s] 24
  have ht := hT.kept hk id
  have hz := hk.size
  generalize w.alloc (.cells #[.int .u64 s] 24) = w1 at *
  go_wp2_with (first | (go_at_call 20; refine (append_is s hs w.heap.size (by omega) _ hb ht w hz hk h0w (Nat.le_refl _)).mono ?_; rintro e w3 ⟨v, rfl, hr, hk3⟩) | go_in)
  go_ret
  exact ⟨v, rfl, hr, hk3⟩
end Go.Proofs.YtpggdafhpdipjaaDoor.Sets
