/-
  An instruction's name and shape.
-/
import Derived.Test.YtjpddfnkamahfaaDoorKinds
import Derived.Great.BuildSlice
set_option linter.unusedVariables false
namespace Go.Proofs.YtjpddfnkamahfaaDoor.Line
open Go.RowKit Go.Sort Go.Proofs.YtjpddfnkamahfaaDoor.Own Go.Proofs.YtjpddfnkamahfaaDoor.Conv

set_option maxRecDepth 100000 in
set_option maxHeartbeats 4000000 in
theorem of_is (z : Int) (w : World) : Calls Tryd.prog 36 #[.int .i64 z] w fun e w' => e = .returned (.agg #[.string ⟨(nameZ z).toArray⟩, .string ⟨(shapeZ z).toArray⟩]) ∧ Kept No w w' := by
  obtain ⟨sn, hsn⟩ : ∃ s : ByteArray, (⟨(nameZ z).toArray⟩ : ByteArray) = s := ⟨_, rfl⟩
  obtain ⟨ss, hss⟩ : ∃ s : ByteArray, (⟨(shapeZ z).toArray⟩ : ByteArray) = s := ⟨_, rfl⟩
  rw [hsn, hss]
  have HSN := Lib.hid hsn
  have HSS := Lib.hid hss
  clear hsn hss
  go_enter Tryd.func36, Tryd.ntmps36
  go_wp2_with fail
  refine (kinds_is _).mono ?_
  rintro e w1 ⟨rfl, k1⟩
  have hx : Box w1 w.heap.size #[.string ⟨#[]⟩, .string ⟨#[]⟩] 65 := (Box.new w _ _).kept k1 id
  have hk1 : Kept No w w1 := ((Kept.refl _ _).alloc _).trans k1 (fun _ _ f => f)
  have hb0 : (w1.alloc (.cells #[.string ⟨#[]⟩, .string ⟨#[]⟩, .string ⟨#[]⟩, .string ⟨#[]⟩, .string ⟨#[]⟩, .string ⟨#[]⟩, .string ⟨#[]⟩, .string ⟨#[]⟩, .string ⟨#[]⟩, .string ⟨#[]⟩, .string ⟨#[]⟩, .string ⟨#[]⟩, .string ⟨#[]⟩, .string ⟨#[]⟩, .string ⟨#[]⟩, .string ⟨#[]⟩, .string ⟨#[]⟩, .string ⟨#[]⟩, .string ⟨#[]⟩, .string ⟨#[]⟩, .string ⟨#[]⟩, .string ⟨#[]⟩, .string ⟨#[]⟩, .string ⟨#[]⟩, .string ⟨#[]⟩, .string ⟨#[]⟩, .string ⟨#[]⟩, .string ⟨#[]⟩, .string ⟨#[]⟩, .string ⟨#[]⟩, .string ⟨#[]⟩, .string ⟨#[]⟩, .string ⟨#[]⟩, .string ⟨#[]⟩, .string ⟨#[]⟩, .string ⟨#[]⟩, .string ⟨#[]⟩, .string ⟨#[]⟩, .string ⟨#[]⟩, .string ⟨#[]⟩, .string ⟨#[]⟩, .string ⟨#[]⟩, .string ⟨#[]⟩, .string ⟨#[]⟩, .string ⟨#[]⟩, .string ⟨#[]⟩, .string ⟨#[]⟩, .string ⟨#[]⟩, .string ⟨#[]⟩, .string ⟨#[]⟩, .string ⟨#[]⟩, .string ⟨#[]⟩] 66)).heap[w1.heap.size]? = some (.cells #[.string ⟨#[]⟩, .string ⟨#[]⟩, .string ⟨#[]⟩, .string ⟨#[]⟩, .string ⟨#[]⟩, .string ⟨#[]⟩, .string ⟨#[]⟩, .string ⟨#[]⟩, .string ⟨#[]⟩, .string ⟨#[]⟩, .string ⟨#[]⟩, .string ⟨#[]⟩, .string ⟨#[]⟩, .string ⟨#[]⟩, .string ⟨#[]⟩, .string ⟨#[]⟩, .string ⟨#[]⟩, .string ⟨#[]⟩, .string ⟨#[]⟩, .string ⟨#[]⟩, .string ⟨#[]⟩, .string ⟨#[]⟩, .string ⟨#[]⟩, .string ⟨#[]⟩, .string ⟨#[]⟩, .string ⟨#[]⟩, .string ⟨#[]⟩, .string ⟨#[]⟩, .string ⟨#[]⟩, .string ⟨#[]⟩, .string ⟨#[]⟩, .string ⟨#[]⟩, .string ⟨#[]⟩, .string ⟨#[]⟩, .string ⟨#[]⟩, .string ⟨#[]⟩, .string ⟨#[]⟩, .string ⟨#[]⟩, .string ⟨#[]⟩, .string ⟨#[]⟩, .string ⟨#[]⟩, .string ⟨#[]⟩, .string ⟨#[]⟩, .string ⟨#[]⟩, .string ⟨#[]⟩, .string ⟨#[]⟩, .string ⟨#[]⟩, .string ⟨#[]⟩, .string ⟨#[]⟩, .string ⟨#[]⟩, .string ⟨#[]⟩, .string ⟨#[]⟩] 66 (0, 0)) := heap_alloc_new w1 _
  have hlt := hx.lt
  have hb1 := setRow_heap _ w1.heap.size _ kindCells.toArray 66 (0, 0) hb0
  have hk2 : Kept No w1 (w1.alloc (.cells #[.string ⟨#[]⟩, .string ⟨#[]⟩, .string ⟨#[]⟩, .string ⟨#[]⟩, .string ⟨#[]⟩, .string ⟨#[]⟩, .string ⟨#[]⟩, .string ⟨#[]⟩, .string ⟨#[]⟩, .string ⟨#[]⟩, .string ⟨#[]⟩, .string ⟨#[]⟩, .string ⟨#[]⟩, .string ⟨#[]⟩, .string ⟨#[]⟩, .string ⟨#[]⟩, .string ⟨#[]⟩, .string ⟨#[]⟩, .string ⟨#[]⟩, .string ⟨#[]⟩, .string ⟨#[]⟩, .string ⟨#[]⟩, .string ⟨#[]⟩, .string ⟨#[]⟩, .string ⟨#[]⟩, .string ⟨#[]⟩, .string ⟨#[]⟩, .string ⟨#[]⟩, .string ⟨#[]⟩, .string ⟨#[]⟩, .string ⟨#[]⟩, .string ⟨#[]⟩, .string ⟨#[]⟩, .string ⟨#[]⟩, .string ⟨#[]⟩, .string ⟨#[]⟩, .string ⟨#[]⟩, .string ⟨#[]⟩, .string ⟨#[]⟩, .string ⟨#[]⟩, .string ⟨#[]⟩, .string ⟨#[]⟩, .string ⟨#[]⟩, .string ⟨#[]⟩, .string ⟨#[]⟩, .string ⟨#[]⟩, .string ⟨#[]⟩, .string ⟨#[]⟩, .string ⟨#[]⟩, .string ⟨#[]⟩, .string ⟨#[]⟩, .string ⟨#[]⟩] 66)) := (Kept.refl _ _).alloc _
  have hk3 := setRow_kept hk2 hb0 kindCells.toArray
  have hx3 := hx.kept hk3 id
  have hk4 := hk1.trans hk3 (fun _ _ f => f)
  clear hk2 hk3 hk1 k1 hx
  go_upto_region 2 with (refine wpList_store_rowTo rfl 66 _ _ rfl rfl w1.heap.size kindCells.toArray (by kernel_rfl) (by kernel_rfl) 66 _ hb0 (by kernel_rfl) (by kernel_rfl) (by kernel_rfl) ?_)
  clear hb0
  generalize (w1.alloc (.cells #[.string ⟨#[]⟩, .string ⟨#[]⟩, .string ⟨#[]⟩, .string ⟨#[]⟩, .string ⟨#[]⟩, .string ⟨#[]⟩, .string ⟨#[]⟩, .string ⟨#[]⟩, .string ⟨#[]⟩, .string ⟨#[]⟩, .string ⟨#[]⟩, .string ⟨#[]⟩, .string ⟨#[]⟩, .string ⟨#[]⟩, .string ⟨#[]⟩, .string ⟨#[]⟩, .string ⟨#[]⟩, .string ⟨#[]⟩, .string ⟨#[]⟩, .string ⟨#[]⟩, .string ⟨#[]⟩, .string ⟨#[]⟩, .string ⟨#[]⟩, .string ⟨#[]⟩, .string ⟨#[]⟩, .string ⟨#[]⟩, .string ⟨#[]⟩, .string ⟨#[]⟩, .string ⟨#[]⟩, .string ⟨#[]⟩, .string ⟨#[]⟩, .string ⟨#[]⟩, .string ⟨#[]⟩, .string ⟨#[]⟩, .string ⟨#[]⟩, .string ⟨#[]⟩, .string ⟨#[]⟩, .string ⟨#[]⟩, .string ⟨#[]⟩, .string ⟨#[]⟩, .string ⟨#[]⟩, .string ⟨#[]⟩, .string ⟨#[]⟩, .string ⟨#[]⟩, .string ⟨#[]⟩, .string ⟨#[]⟩, .string ⟨#[]⟩, .string ⟨#[]⟩, .string ⟨#[]⟩, .string ⟨#[]⟩, .string ⟨#[]⟩, .string ⟨#[]⟩] 66)).setRow w1.heap.size kindCells.toArray = w3 at *
  have HB := Lib.hid hb1
  clear hb1
  by_cases hin : 0 ≤ z ∧ z < 26
  · obtain ⟨k, rfl⟩ : ∃ k : Nat, z = k := ⟨z.toNat, by omega⟩
    have hk26 : k < 26 := by omega
    have i0 : (0 : Int) ≤ k := by omega
    have i1 : (k : Int) < 26 := by omega
    obtain ⟨c1, c2⟩ := kcell k hk26
    rw [← nameZ_in k hk26, HSN.out] at c1
    rw [← shapeZ_in k hk26, HSS.out] at c2
    have d1 : w3.cell? ⟨w1.heap.size, k * 2, none⟩ = some (.string sn) := by
      rw [cell_of_row w3 _ _ _ _ _ HB.out, Nat.mul_comm]; simpa using c1
    have d2 : w3.cell? ⟨w1.heap.size, k * 2 + 1, none⟩ = some (.string ss) := by
      rw [cell_of_row w3 _ _ _ _ _ HB.out, Nat.mul_comm]; simpa using c2
    have hb5 := setRow_heap _ w.heap.size _ #[.string sn, .string ss] 65 (0, 0) hx3
    have hk5 := setRow_kept hk4 hx3 #[.string sn, .string ss]
    have HB5 := Lib.hid hb5
    have HK5 := Lib.hid hk5
    clear hb5 hk5 c1 c2 hin
    go_wp2_with (refine wpList_store_rowTo rfl 65 _ _ rfl rfl w.heap.size #[.string sn, .string ss] (by kernel_rfl) (by kernel_rfl) 65 _ hx3 (by kernel_rfl) (by kernel_rfl) (by kernel_rfl) ?_)
    refine bodyPost_ret (results_cell_row rfl _ _ w.heap.size 65 #[.string sn, .string ss] (0, 0) _ (by kernel_rfl) HB5.out Tryd.underlying65 rfl (by kernel_rfl)) rfl ⟨rfl, HK5.out⟩
  · obtain rfl : sn = ⟨#[]⟩ := by rw [← HSN.out, nameZ, if_neg hin]
    obtain rfl : ss = ⟨#[]⟩ := by rw [← HSS.out, shapeZ, if_neg hin]
    have hb5 := setRow_heap _ w.heap.size _ #[.string ⟨#[]⟩, .string ⟨#[]⟩] 65 (0, 0) hx3
    have hk5 := setRow_kept hk4 hx3 #[.string ⟨#[]⟩, .string ⟨#[]⟩]
    have HB5 := Lib.hid hb5
    have HK5 := Lib.hid hk5
    clear hb5 hk5
    by_cases hz : z < 0
    case' neg =>
      have h26 : (26 : Int) ≤ z := by omega
      have hz0 : (0 : Int) ≤ z := by omega
    all_goals
      clear hin
      go_wp2_with (refine wpList_store_rowTo rfl 65 _ _ rfl rfl w.heap.size #[.string ⟨#[]⟩, .string ⟨#[]⟩] (by kernel_rfl) (by kernel_rfl) 65 _ hx3 (by kernel_rfl) (by kernel_rfl) (by kernel_rfl) ?_)
      refine bodyPost_ret (results_cell_row rfl _ _ w.heap.size 65 #[.string ⟨#[]⟩, .string ⟨#[]⟩] (0, 0) _ (by kernel_rfl) HB5.out Tryd.underlying65 rfl (by kernel_rfl)) rfl ⟨rfl, HK5.out⟩
end Go.Proofs.YtjpddfnkamahfaaDoor.Line
