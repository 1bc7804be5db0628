/-
  All places of a program, collected.
-/
import Derived.Test.YtkjhopnhphiiaaaDoorPlaceIs
import Derived.Maps.OwnIn
set_option linter.unusedVariables false
namespace Go.Proofs.YtkjhopnhphiiaaaDoor.Line
open Go.RowKit Go.Shelf Go.Sort Go.Proofs.YtkjhopnhphiiaaaDoor.Own Go.Proofs.YtkjhopnhphiiaaaDoor.Conv Go.Proofs.YtkjhopnhphiiaaaDoor.Calm Go.Proofs.YtkjhopnhphiiaaaDoor.Range2
attribute [local go_sem] Oper.semAt_some

theorem info_place : (Tryd.prog.info? 23).map (fun i => (i.zero, i.size, i.bytes)) = some (some (.agg #[.int .i64 0, .int .i64 0, .int .i64 0]), 3, 24) := by kernel_rfl
def plV (xs : List Pl) : List Value := vals (xs.flatMap fun x => [x.1, x.2.1, x.2.2])
theorem plV_len (xs : List Pl) : (plV xs).length = xs.length * 3 := by
  unfold plV
  rw [vals_len]
  induction xs with
  | nil => rfl
  | cons x r ih => simp [List.flatMap_cons, ih]; omega
theorem plV_app (xs ys : List Pl) : plV (xs ++ ys) = plV xs ++ plV ys := by simp [plV, vals_app]
theorem plV_one (x : Pl) : plV [x] = [.int .i64 x.1, .int .i64 x.2.1, .int .i64 x.2.2] := rfl

theorem row_appended {W w1 : World} {n₀ B : Nat} {t e : TypeId} {size : Nat} {v v' : Value} {k m : Nat} {xs ys : List Value} {tmp : Obj}
    (hv : Boxed W B t v) (hte : t ≠ e) (hrow : W.ownsRow n₀ e size v k xs) (hn₀ : n₀ ≤ W.heap.size) (hown' : w1.ownsRow n₀ e size v' m ys) (hgrow : (W.alloc tmp).grownBy w1 v.ownBlock) :
    Boxed w1 B t v ∧ Boxed (w1.setCell ⟨B, 0, none⟩ v') B t v' ∧ (w1.setCell ⟨B, 0, none⟩ v').ownsRow n₀ e size v' m ys ∧ KeepsOthers W (w1.setCell ⟨B, 0, none⟩ v') ∧
      (∀ j, j < W.heap.size → j ≠ B → v.ownBlock ≠ some j → (w1.setCell ⟨B, 0, none⟩ v').heap[j]? = W.heap[j]?) ∧ Kept (fun j => j = B ∨ n₀ ≤ j) W (w1.setCell ⟨B, 0, none⟩ v') := by
  have hv1 : Boxed w1 B t v := (hv.alloc tmp).kept hgrow (hv.not_row hte hrow)
  refine ⟨hv1, hv1.set v', hown'.kept (grownBy_setCell' w1 B v') (.inr (hv1.not_row hte hown').symm), ?_, fun j hj h1 h2 => ?_, ?_⟩
  · refine ((KeepsOthers.alloc W tmp).trans (KeepsOthers.of_grownBy hgrow fun j o ej hj => ?_)).trans (KeepsOthers.setCell _ _ _)
    rcases (hrow.alloc tmp).2 with ⟨rfl, _⟩ | ⟨g, cap, cur, rfl, _, hgb, _⟩
    · simp [Value.ownBlock] at ej
    · obtain rfl : g = j := by simpa [Value.ownBlock] using ej
      rw [hgb] at hj; cases hj; rfl
  · exact (Below.heap_setCell _ _ _ _ h1).trans ((hgrow.block j (by simp; omega) (fun e => h2 e.symm)).trans (Below.heap_alloc _ _ _ hj))
  · refine (((Kept.refl _ W).alloc tmp).grown hgrow fun j _ ej => .inr ?_).setCell (p := ⟨B, 0, none⟩) (fun _ => .inl rfl) v'
    rcases hrow.2 with ⟨rfl, _⟩ | ⟨g, cap, cur, rfl, hb, _, _⟩
    · simp [Value.ownBlock] at ej
    · obtain rfl : g = j := by simpa [Value.ownBlock] using ej
      exact hb

set_option maxRecDepth 100000 in
set_option maxHeartbeats 8000000 in
theorem appendSeq_is (b : Nat) (R C S T : Nat) (bR : R ≤ 4) (bC : C ≤ 6) (bS : S ≤ 2) (bT : T ≤ 4) (w : World) (hbz : Box w b (sizeCells R C S T).toArray 51) :
    Calls Tryd.prog 30 #[.slice none 0 0, .func (.func 29) #[] #[.pointer (some ⟨b, 0, none⟩)]] w fun e w' => ∃ v, e = .returned v ∧ Seg w' w.heap.size 23 3 v (placesL R C S T).length (plV (placesL R C S T)) ∧ Kept No w w' := by
  obtain ⟨i0, hi, hz0, hz1, hz2⟩ := info_parts info_place
  have hbb := hbz.lt
  refine (callsIn_wide (n := 4)).1 ?_
  refine callsIn_of_wp_marks Tryd.func30 rfl trivial ?_ rfl
  simp only [Tryd.ntmps30, List.size_toArray, List.length_cons, List.length_nil, Nat.reduceAdd, Nat.reduceSub, Array.replicate_succ, Array.replicate_zero, List.push_toArray, List.append_toArray, List.nil_append, List.cons_append]
  gi_wp2
  have hv0 := Boxed.new w 31 (.slice none 0 0)
  have hbz0 : Box (w.alloc (.cells #[.slice none 0 0] 31)) b (sizeCells R C S T).toArray 51 := hbz.alloc _
  have hk0 : Kept No w (w.alloc (.cells #[.slice none 0 0] 31)) := (Kept.refl _ _).alloc _
  have hs0 : (w.alloc (.cells #[.slice none 0 0] 31)).heap.size = w.heap.size + 1 := by simp
  obtain ⟨W0, hW0⟩ : ∃ W0, w.alloc (.cells #[.slice none 0 0] 31) = W0 := ⟨_, rfl⟩
  rw [hW0] at hv0 hbz0 hk0 hs0 ⊢
  have HS0 := Lib.hid hs0
  have hs1 : w.heap.size < W0.heap.size := by omega
  clear hW0 hs0 hbz
  refine range_boxed enP 4 (by omega) 29 #[.pointer (some ⟨b, 0, none⟩)] rfl (enters_of Tryd.func29 (by kernel_rfl) rfl) rfl
    w.heap.size hs1 (fun o k => k ≠ w.heap.size ∧ ∀ v, o = some (.cells #[v] 31 (0, 0)) → v.ownBlock ≠ some k) (fun k => k = b) (fun k hk => ⟨by subst hk; omega, by subst hk; omega, fun v hv => ?g0⟩) (placesL R C S T)
    (fun l' J Jx D hJ hD1 hD2 hY W hS' hsz h0 => place_each 3 l' b (by omega) R C S T bR bC bS bT J Jx D hJ hD1 hD2 hY W ((hS' b rfl).1.trans hbz0) h0)
    (fun pre W => (∃ v, Boxed W w.heap.size 31 v ∧ W.ownsRow W0.heap.size 23 3 v pre.length (plV pre)) ∧ Kept No w W ∧ W0.heap.size ≤ W.heap.size)
    (fun c pre W => False)
    ?own ?hG (fun c t A B row h _ _ => h) ⟨⟨_, hv0, World.ownsRow_nil _ _ _ _⟩, hk0, Nat.le_refl _⟩
    (fun y a' W => ∃ Bv, W0.heap.size ≤ Bv ∧ Box W Bv #[.int .i64 y.1, .int .i64 y.2.1, .int .i64 y.2.2] 23 ∧ a' = { tmps := #[.slice none 0 0, .func (.func 29) #[] #[.pointer (some ⟨b, 0, none⟩)], .pointer (some ⟨w.heap.size, 0, none⟩), undef, .slice none 0 0, .pointer (some ⟨Bv, 0, none⟩), .func (.func 29) #[] #[.pointer (some ⟨b, 0, none⟩)], .agg #[.int .i64 y.1, .int .i64 y.2.1, .int .i64 y.2.2], undef, undef, undef, undef, undef], defers := [] })
    ?ownA ?assign ?body ?done ?stop
  case g0 =>
    rw [hv0] at hv
    have := Option.some.inj hv
    simp only [Obj.cells.injEq, Array.mk.injEq, List.cons.injEq, and_true] at this
    rw [← this]
    simp [Value.ownBlock]
  case own =>
    rintro t A B row ⟨⟨v, h1, h2⟩, h4, h5⟩ hg hr
    obtain ⟨v', h1', h2', _⟩ := holdsRow_own (β := List Pl) W0.heap.size w.heap.size 31 23 3 (fun t => t.length) (fun t => plV t) (fun _ _ => True) t A B row ⟨v, h1, h2, trivial⟩ hg (fun r e => (hr r e).2)
    exact ⟨⟨v', h1', h2'⟩, own_kept hg hr (by omega) h4, Nat.le_trans h5 hg.size⟩
  case hG =>
    rintro pre W k ⟨⟨v, h1, h2⟩, h4, h5⟩ hk
    refine ⟨by omega, fun u hu e => ?_⟩
    rw [h1] at hu
    have := Option.some.inj hu
    simp only [Obj.cells.injEq, Array.mk.injEq, List.cons.injEq, and_true] at this
    rw [← this] at e
    have := (h2.lt k e).2
    omega
  case ownA =>
    rintro y a' t A B row ⟨Bv, h1, h2, h3⟩ hg hr
    exact ⟨Bv, h1, own_cells hg hr h2, h3⟩
  case assign =>
    rintro l' pre y W K ⟨⟨v, h1, h2⟩, hk, h5⟩ hsz hK
    simp only [enP]
    gi_wp2
    have hbs : (W.alloc (.cells #[.int .i64 y.1, .int .i64 y.2.1, .int .i64 y.2.2] 23)).heap[w.heap.size]? = W.heap[w.heap.size]? := Below.heap_alloc _ _ _ h1.lt
    exact hK _ _ ((KeepsOthers.alloc _ _).from _) ⟨⟨v, hbs.trans h1, h2.alloc _⟩, hk.alloc _, by simp; omega⟩ ⟨W.heap.size, hsz, Box.new W _ _, rfl⟩ (fun k h1 h2 => ⟨Below.heap_alloc _ _ _ h2, by rw [hbs]; exact h1⟩)
  case body =>
    rintro l' pre y a' W ⟨⟨v, hv, hrow⟩, hk, h5⟩ ⟨Bv, hBv, hy, rfl⟩ hsz hp
    have hlen : pre.length ≤ 60 := by
      have h7 := hp.length_le
      rw [places_len] at h7
      have : T * S ≤ 4 * 2 := Nat.mul_le_mul bT bS
      simp at h7
      omega
    have f0 : W.cell? ⟨Bv, 0, none⟩ = some (.int .i64 y.1) := hy.cell 0
    have f1 : W.cell? ⟨Bv, 1, none⟩ = some (.int .i64 y.2.1) := hy.cell 1
    have f2 : W.cell? ⟨Bv, 2, none⟩ = some (.int .i64 y.2.2) := hy.cell 2
    have c1 := hv.cell
    have f3 := hv.frozen
    clear hp hbz0
    gi_wp2_with (first
      | (gi_at_builtin; refine wpListIn_append_own_at _ rfl _ _ 31 rfl W0.heap.size 23 i0 (.agg #[.int .i64 0, .int .i64 0, .int .i64 0]) 3 24 Tryd.underlying31 hi hz0 hz1 hz2 rfl (by decide) _ _ _ rfl (hrow.alloc _) ⟨W.heap.size, 0, none⟩ 1 1 [.int .i64 y.1, .int .i64 y.2.1, .int .i64 y.2.2] rfl rfl (cells_new _ _ _) (fun u hu => by simp at hu; rcases hu with rfl | rfl | rfl <;> rfl) (by unfold maxLen; omega) (by omega) (by simp; omega) ?_; intro v' w1 hown' hgrow _ hat; obtain ⟨g', cap', rfl⟩ := ownsRow_succ hown'; obtain ⟨hv1, hv2, hr2, hk2, hj2, hb2⟩ := row_appended hv (by decide) hrow h5 hown' hgrow; have hc1 := hv1.cell; have hf1 := hv1.frozen))
    refine ⟨hk2.from _, fun k hkG hlt => ?_, ⟨_, hv2, by simpa [plV_app, plV_one] using hr2⟩, hk.trans hb2 (fun k hk h => by omega), Nat.le_trans h5 hb2.size⟩
    have hown := hkG.2 v hv
    refine ⟨hj2 k hlt hkG.1 hown, hkG.1, fun u hu e => ?_⟩
    rw [hv2] at hu
    have := Option.some.inj hu
    simp only [Obj.cells.injEq, Array.mk.injEq, List.cons.injEq, and_true] at this
    rw [← this] at e
    rcases hat with h | h
    · exact hown (h.symm.trans e)
    · have := Option.some.inj (h.symm.trans e)
      simp at this
      omega
  case done =>
    rintro D W hD ⟨⟨v, hv, hrow⟩, hk, h5⟩ hK
    have c1 := hv.cell
    gi_wp2
    refine ⟨by simp, .inl ⟨_, _, rfl, run_takeDeferred hK, ?_⟩⟩
    exact ⟨_, results_tmp rfl _ _ _, v, rfl, (Seg.of_owns (ownsRow_putObj hrow _ hK rfl)).mono (by omega), hk.trans (T := fun k => k = D) ⟨rfl, rfl, rfl, by simp, fun k _ hk => World.putObj_heap_other (fun e => hk e)⟩ (fun k hk e => by omega)⟩
  case stop =>
    rintro D c pre W _ _ h _
    exact h.elim

set_option maxHeartbeats 2000000 in
theorem collect_is (b : Nat) (R C S T : Nat) (bR : R ≤ 4) (bC : C ≤ 6) (bS : S ≤ 2) (bT : T ≤ 4) (w : World) (hbz : Box w b (sizeCells R C S T).toArray 51) :
    Calls Tryd.prog 22 #[.func (.func 29) #[] #[.pointer (some ⟨b, 0, none⟩)]] w fun e w' => ∃ v, e = .returned v ∧ Seg w' w.heap.size 23 3 v (placesL R C S T).length (plV (placesL R C S T)) ∧ Kept No w w' := by
  have h := appendSeq_is b R C S T bR bC bS bT w hbz
  have H := Lib.hid h
  clear h hbz
  go_enter Tryd.func22, Tryd.ntmps22
  go_wp2_with fail
  refine H.out.mono ?_
  rintro e w1 ⟨v, rfl, hs, hk⟩
  go_wp2_with fail
  go_ret
  exact ⟨v, rfl, hs, hk⟩

set_option maxHeartbeats 2000000 in
theorem all_is (r c s : Int) (R C S T : Nat) (hR : clampI r 0 4 = R) (hC : clampI c 0 6 = C) (hS : clampI s 0 2 = S) (bR : R ≤ 4) (bC : C ≤ 6) (bS : S ≤ 2) (bT : T ≤ 4) (ao : Option Addr) (n cap : Nat) (hn : n ≤ cap) (hm : cap ≤ maxLen) (hT : clampI n 0 4 = T) (w : World) :
    Calls Tryd.prog 12 #[.agg #[.int .i64 r, .int .i64 c, .int .i64 s, .slice ao n cap]] w fun e w' => ∃ v, e = .returned v ∧ Seg w' w.heap.size 23 3 v (placesL R C S T).length (plV (placesL R C S T)) ∧ Kept No w w' := by
  have hE := fun w => each_is r c s R C S T hR hC hS ao n cap hn hm hT w
  have HE := Lib.hid hE
  have hk0 : Kept No w (w.alloc (.cells #[.int .i64 r, .int .i64 c, .int .i64 s, .slice ao n cap] 26)) := (Kept.refl _ _).alloc _
  have HK0 := Lib.hid hk0
  clear hk0 hE hR hC hS hT
  go_enter Tryd.func12, Tryd.ntmps12
  go_wp2_with fail
  refine (HE.out _).mono ?_
  rintro e w1 ⟨b, rfl, hb, hbs, hk⟩
  have hk1 := HK0.out.trans hk (fun _ _ f => f)
  have HC := Lib.hid (collect_is b R C S T bR bC bS bT w1 hb)
  have HK := Lib.hid hk1
  clear hk hb hbs hk1 HE HK0
  go_wp2_with fail
  refine HC.out.mono ?_
  rintro e w2 ⟨v, rfl, hs, hk2⟩
  have hk3 := HK.out.trans hk2 (fun _ _ f => f)
  have hs3 := hs.mono (B' := w.heap.size) HK.out.size
  go_wp2_with fail
  go_ret
  exact ⟨v, rfl, hs3, hk3⟩
end Go.Proofs.YtkjhopnhphiiaaaDoor.Line
