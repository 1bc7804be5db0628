/-
  Whether a place is one of a program's, as the code tells it.
-/
import Derived.Test.YtkjhopnhphiiaaaDoorPlaceIter
import Derived.Test.YtkjhopnhphiiaaaDoorRange3
set_option linter.unusedVariables false
namespace Go.Proofs.YtkjhopnhphiiaaaDoor.Line
open Go.RowKit Go.Shelf Go.Sort Go.Proofs.YtkjhopnhphiiaaaDoor.Own Go.Proofs.YtkjhopnhphiiaaaDoor.Conv Go.Proofs.YtkjhopnhphiiaaaDoor.Calm Go.Proofs.YtkjhopnhphiiaaaDoor.Range2
attribute [local go_sem] Oper.semAt_some

theorem own_cells {W W' : World} {row : Option Nat} {B k : Nat} {cs : Array Value} {t : TypeId} {fr : Nat × Nat} (hg : W.grownBy W' row) (hr : ∀ r, row = some r → B ≤ r ∧ ∃ o : Obj, W.heap[r]? = some o ∧ o.isCells = false)
    (h : W.heap[k]? = some (.cells cs t fr)) : W'.heap[k]? = some (.cells cs t fr) := by
  refine (hg.block k (Array.getElem?_eq_some_iff.1 h).1 (fun e => ?_)).trans h
  obtain ⟨_, o, ho, hc⟩ := hr k e.symm
  rw [h] at ho; cases ho; cases hc
theorem own_kept {S : Nat → Prop} {w W W' : World} {row : Option Nat} {B : Nat} (hg : W.grownBy W' row) (hr : ∀ r, row = some r → B ≤ r ∧ ∃ o : Obj, W.heap[r]? = some o ∧ o.isCells = false) (hB : w.heap.size ≤ B)
    (h : Kept S w W) : Kept S w W' := h.grown hg (fun k hk e => by have := (hr k e).1; omega)
theorem pl_eq {x y : Pl} (h1 : x.1 = y.1) (h2 : x.2.1 = y.2.1) (h3 : x.2.2 = y.2.2) : x = y := by
  obtain ⟨x1, x2, x3⟩ := x
  obtain ⟨y1, y2, y3⟩ := y
  simp only at h1 h2 h3
  rw [h1, h2, h3]
def plCells (x : Pl) : Array Value := #[.int .i64 x.1, .int .i64 x.2.1, .int .i64 x.2.2]
set_option maxRecDepth 100000 in
set_option maxHeartbeats 8000000 in
theorem is_is (x : Pl) (r c s : Int) (R C S T : Nat) (hR : clampI r 0 4 = R) (hC : clampI c 0 6 = C) (hS : clampI s 0 2 = S) (bR : R ≤ 4) (bC : C ≤ 6) (bS : S ≤ 2) (bT : T ≤ 4) (ao : Option Addr) (n cap : Nat) (hn : n ≤ cap) (hm : cap ≤ maxLen) (hT : clampI n 0 4 = T) (w : World) :
    Calls Tryd.prog 9 #[.agg (plCells x), .agg #[.int .i64 r, .int .i64 c, .int .i64 s, .slice ao n cap]] w fun e w' => e = .returned (.bool (isPl R C S T x)) ∧ Kept No w w' := by
  have hE := fun w => each_is r c s R C S T hR hC hS ao n cap hn hm hT w
  have HE := Lib.hid hE
  have hbx := ((Box.new w (plCells x) 23).alloc (.cells #[.int .i64 r, .int .i64 c, .int .i64 s, .slice ao n cap] 26)).alloc (.cells #[.bool false] 4)
  have hbp := (Box.new (w.alloc (.cells (plCells x) 23)) #[.int .i64 r, .int .i64 c, .int .i64 s, .slice ao n cap] 26).alloc (.cells #[.bool false] 4)
  have hbr := Boxed.new ((w.alloc (.cells (plCells x) 23)).alloc (.cells #[.int .i64 r, .int .i64 c, .int .i64 s, .slice ao n cap] 26)) 4 (.bool false)
  have hk0 : Kept No w (((w.alloc (.cells (plCells x) 23)).alloc (.cells #[.int .i64 r, .int .i64 c, .int .i64 s, .slice ao n cap] 26)).alloc (.cells #[.bool false] 4)) := (((Kept.refl _ _).alloc _).alloc _).alloc _
  have hs0 : (((w.alloc (.cells (plCells x) 23)).alloc (.cells #[.int .i64 r, .int .i64 c, .int .i64 s, .slice ao n cap] 26)).alloc (.cells #[.bool false] 4)).heap.size = w.heap.size + 3 := by simp
  simp only [World.size_alloc] at hbx hbp hbr
  obtain ⟨w0, hw0⟩ : ∃ w0, ((w.alloc (.cells (plCells x) 23)).alloc (.cells #[.int .i64 r, .int .i64 c, .int .i64 s, .slice ao n cap] 26)).alloc (.cells #[.bool false] 4) = w0 := ⟨_, rfl⟩
  rw [hw0] at hbx hbp hbr hk0 hs0
  have HW := Lib.hid hw0
  have d0 : w0.cell? ⟨w.heap.size + 1, 0, none⟩ = some (.int .i64 r) := hbp.cell 0
  have d1 : w0.cell? ⟨w.heap.size + 1, 1, none⟩ = some (.int .i64 c) := hbp.cell 1
  have d2 : w0.cell? ⟨w.heap.size + 1, 2, none⟩ = some (.int .i64 s) := hbp.cell 2
  have d3 : w0.cell? ⟨w.heap.size + 1, 3, none⟩ = some (.slice ao n cap) := hbp.cell 3
  have HS0 := Lib.hid hs0
  clear hw0 hE hs0 hR hC hS hT
  refine (callsIn_wide (n := 4)).1 ?_
  refine callsIn_of_wp_marks Tryd.func9 rfl trivial ?_ rfl
  simp only [plCells, Tryd.ntmps9, List.size_toArray, List.length_cons, List.length_nil, Nat.reduceAdd, Nat.reduceSub, Array.replicate_succ, Array.replicate_zero, List.push_toArray, List.append_toArray, List.nil_append, List.cons_append]
  gi_wp2
  refine ⟨trivial, ?_⟩
  simp only [plCells] at HW
  rw [HW.out]
  refine (callsIn_wide.2 (HE.out w0)).mono ?_
  rintro e W0 ⟨b, rfl, hbz, hbs, hkw⟩
  have hz0 : w.heap.size + 3 ≤ W0.heap.size := by have := HS0.out; have := hkw.size; omega
  have hx0 := hbx.kept hkw id
  have hr0 : Boxed W0 (w.heap.size + 1 + 1) 4 (.bool false) := (hkw.block _ hbr.lt id).trans hbr
  have hk1 := hk0.trans hkw (fun _ _ f => f)
  have hbb : w.heap.size + 3 ≤ b := by have := HS0.out; omega
  have hbl := hbz.lt
  clear d0 d1 d2 d3 hbx hbp hbr hk0 HW hbs hkw HE
  gi_wp2
  obtain ⟨res, hres⟩ : ∃ k, w.heap.size + 1 + 1 = k := ⟨_, rfl⟩
  rw [hres] at hr0 ⊢
  refine range_boxed enP 4 (by omega) 29 #[.pointer (some ⟨b, 0, none⟩)] rfl (enters_of Tryd.func29 (by kernel_rfl) rfl) rfl
    res hr0.lt (fun _ k => k ≠ res) (fun k => k = b) (fun k hk => ⟨by omega, by omega⟩) (placesL R C S T)
    (fun l' J Jx D hJ hD1 hD2 hY W hS' hsz h0 => place_each 3 l' b (by omega) R C S T bR bC bS bT J Jx D hJ hD1 hD2 hY W ((hS' b rfl).1.trans hbz) h0)
    (fun pre W => x ∉ pre ∧ Box W w.heap.size #[.int .i64 x.1, .int .i64 x.2.1, .int .i64 x.2.2] 23 ∧ Boxed W res 4 (.bool false) ∧ Kept No w W)
    (fun c pre W => c = .ret ∧ x ∈ pre ∧ Boxed W res 4 (.bool true) ∧ Kept No w W)
    ?own (fun pre W k h hk => by have := h.2.2.1.lt; omega) ?ownx ⟨by simp, hx0, hr0, hk1⟩
    (fun y a' W => ∃ Bv, W0.heap.size ≤ Bv ∧ Box W Bv #[.int .i64 y.1, .int .i64 y.2.1, .int .i64 y.2.2] 23 ∧ a' = { tmps := #[.agg #[.int .i64 x.1, .int .i64 x.2.1, .int .i64 x.2.2], .agg #[.int .i64 r, .int .i64 c, .int .i64 s, .slice ao n cap], .pointer (some ⟨w.heap.size, 0, none⟩), .pointer (some ⟨w.heap.size + 1, 0, none⟩), .pointer (some ⟨res, 0, none⟩), .pointer (some ⟨Bv, 0, none⟩), .agg #[.int .i64 r, .int .i64 c, .int .i64 s, .slice ao n cap], .func (.func 29) #[] #[.pointer (some ⟨b, 0, none⟩)], .agg #[.int .i64 y.1, .int .i64 y.2.1, .int .i64 y.2.2], undef, undef, undef], defers := [] })
    ?ownA ?assign ?body ?done ?stop
  case own =>
    rintro t A B row ⟨h1, h2, h3, h4⟩ hg hr
    exact ⟨h1, own_cells hg hr h2, own_cells hg hr h3, own_kept hg hr (by omega) h4⟩
  case ownx =>
    rintro c t A B row ⟨h1, h2, h3, h4⟩ hg hr
    exact ⟨h1, h2, own_cells hg hr h3, own_kept hg hr (by omega) h4⟩
  case ownA =>
    rintro y a' t A B row ⟨Bv, h1, h2, h3⟩ hg hr
    exact ⟨Bv, h1, own_cells hg hr h2, h3⟩
  case assign =>
    rintro l' pre y W K ⟨hnm, hx, hr, hk⟩ hsz hK
    simp only [enP]
    gi_wp2
    exact hK _ _ ((KeepsOthers.alloc _ _).from _) ⟨hnm, hx.alloc _, (Below.heap_alloc _ _ _ hr.lt).trans hr, hk.alloc _⟩ ⟨W.heap.size, hsz, Box.new W _ _, rfl⟩ (fun k h1 h2 => ⟨Below.heap_alloc _ _ _ h2, h1⟩)
  case body =>
    rintro l' pre y a' W ⟨hnm, hx, hr, hk⟩ ⟨Bv, hBv, hy, rfl⟩ hsz hp
    have d0 : W.cell? ⟨w.heap.size, 0, none⟩ = some (.int .i64 x.1) := hx.cell 0
    have d1 : W.cell? ⟨w.heap.size, 1, none⟩ = some (.int .i64 x.2.1) := hx.cell 1
    have d2 : W.cell? ⟨w.heap.size, 2, none⟩ = some (.int .i64 x.2.2) := hx.cell 2
    have f0 : W.cell? ⟨Bv, 0, none⟩ = some (.int .i64 y.1) := hy.cell 0
    have f1 : W.cell? ⟨Bv, 1, none⟩ = some (.int .i64 y.2.1) := hy.cell 1
    have f2 : W.cell? ⟨Bv, 2, none⟩ = some (.int .i64 y.2.2) := hy.cell 2
    have g1 := hr.cell
    have g2 := hr.frozen
    have hne : ∀ z : Pl, (¬ x.1 = z.1 ∨ ¬ x.2.1 = z.2.1 ∨ ¬ x.2.2 = z.2.2) → x ≠ z := fun z h e => by subst e; simp at h
    have HN := Lib.hid hne
    clear hne
    gi_wp2
    · have hxy : x = y := pl_eq ‹_› ‹_› ‹_›
      exact ⟨(KeepsOthers.setCell _ _ _).from _, rfl, by rw [hxy]; simp, hr.set _, hk.setCell (fun h => by simp only at h; omega) _⟩
    all_goals
      refine ⟨(KeepsOthers.refl _).from _, fun k h1 h2 => ⟨rfl, h1⟩, fun hm => ?_, hx, hr, hk⟩
      rcases List.mem_append.1 hm with hm | hm
      · exact hnm hm
      · refine HN.out y ?_ (List.mem_singleton.1 hm)
        first | exact .inl ‹_› | exact .inr (.inl ‹_›) | exact .inr (.inr ‹_›)
  case done =>
    rintro D W hD ⟨hnm, hx, hr, hk⟩ hK
    have g1 := hr.cell
    have g2 := hr.frozen
    have hf : isPl R C S T x = false := by
      cases h : isPl R C S T x
      · rfl
      · exact (hnm ((mem_places R C S T x).2 h)).elim
    have HF := Lib.hid hf
    clear hf
    gi_wp2
    have hK' := ((KeepsOthers.setCell W ⟨res, 0, none⟩ (.bool false)).same D _ hK rfl)
    have hr' := hr.set (.bool false)
    have hk' : Kept No w (W.setCell ⟨res, 0, none⟩ (.bool false)) := hk.setCell (fun h => by simp only at h; omega) _
    refine ⟨by simp, .inl ⟨_, _, rfl, run_takeDeferred hK', ?_⟩⟩
    have hc := (Boxed.kept hr' (grownBy_putObj' (W.setCell ⟨res, 0, none⟩ (.bool false)) D (.deferred none)) (fun e => by cases e; rw [hr'] at hK'; cases hK')).cell
    refine ⟨.bool false, by simp [results, Tryd.results9, go_sem, hc], by rw [HF.out], ?_⟩
    exact hk'.trans (T := fun k => k = D) ⟨rfl, rfl, rfl, by simp, fun k _ hk => World.putObj_heap_other (fun e => hk e)⟩ (fun k hk e => by omega)
  case stop =>
    rintro D c pre W hD hp ⟨rfl, hm, hr, hk⟩ hK
    have hf : isPl R C S T x = true := (mem_places R C S T x).1 (hp.subset hm)
    have HF := Lib.hid hf
    clear hf
    gi_wp2
    refine ⟨by simp, .inl ⟨_, _, rfl, run_takeDeferred hK, ?_⟩⟩
    have hc := (Boxed.kept hr (grownBy_putObj' W D (.deferred none)) (fun e => by cases e; rw [hr] at hK; cases hK)).cell
    refine ⟨.bool true, by simp [results, Tryd.results9, go_sem, hc], by rw [HF.out], ?_⟩
    exact hk.trans (T := fun k => k = D) ⟨rfl, rfl, rfl, by simp, fun k _ hk => World.putObj_heap_other (fun e => hk e)⟩ (fun k hk e => by omega)
end Go.Proofs.YtkjhopnhphiiaaaDoor.Line
