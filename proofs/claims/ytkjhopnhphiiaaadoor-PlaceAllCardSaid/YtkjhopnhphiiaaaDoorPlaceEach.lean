/-
  The iterator over a program's places: what it captures.
-/
import Derived.Test.YtkjhopnhphiiaaaDoorPlaceRef
import Derived.Test.YtkjhopnhphiiaaaDoorAlloc
import Derived.Great.BuildSlice
import Derived.Deep.RegionHeld3
import Derived.BigQuiet
import Derived.Deep.DeepCutAuto
import Derived.Deep.CutBlock
set_option linter.unusedVariables false
namespace Go.Proofs.YtkjhopnhphiiaaaDoor.Line
open Go.RowKit Go.Sort Go.Proofs.YtkjhopnhphiiaaaDoor.Own Go.Proofs.YtkjhopnhphiiaaaDoor.Conv Go.Proofs.YtkjhopnhphiiaaaDoor.Calm

/-- The cells of the table of sizes. -/
def sizeI (r c s t : Nat) : List Int := (sizesL r c s t).flatMap fun z => [(z.1 : Int), (z.2.1 : Int), (z.2.2.1 : Int), (z.2.2.2 : Int)]
def sizeCells (r c s t : Nat) : List Value := vals (sizeI r c s t)

set_option maxRecDepth 100000 in
set_option maxHeartbeats 8000000 in
theorem each_is (r c s : Int) (R C S T : Nat) (hR : clampI r 0 4 = R) (hC : clampI c 0 6 = C) (hS : clampI s 0 2 = S) (ao : Option Addr) (n cap : Nat) (hn : n ≤ cap) (hm : cap ≤ maxLen) (hT : clampI n 0 4 = T) (w : World) :
    Calls Tryd.prog 19 #[.agg #[.int .i64 r, .int .i64 c, .int .i64 s, .slice ao n cap]] w fun e w' => ∃ b, e = .returned (.func (.func 29) #[] #[.pointer (some ⟨b, 0, none⟩)]) ∧ Box w' b (sizeCells R C S T).toArray 51 ∧ w.heap.size ≤ b ∧ Kept No w w' := by
  have hT2 : min (n : Int) 4 = T := by rw [← hT]; unfold clampI; omega
  unfold maxLen at hm
  have l2 : ∀ w, Calls Tryd.prog 28 #[.int .i64 r, .int .i64 0, .int .i64 4] w fun e w' => e = .returned (.int .i64 R) ∧ w' = w := fun w => by rw [← hR]; exact clamp_is r 0 4 (by omega) w
  have l3 : ∀ w, Calls Tryd.prog 28 #[.int .i64 c, .int .i64 0, .int .i64 6] w fun e w' => e = .returned (.int .i64 C) ∧ w' = w := fun w => by rw [← hC]; exact clamp_is c 0 6 (by omega) w
  have l4 : ∀ w, Calls Tryd.prog 28 #[.int .i64 s, .int .i64 0, .int .i64 2] w fun e w' => e = .returned (.int .i64 S) ∧ w' = w := fun w => by rw [← hS]; exact clamp_is s 0 2 (by omega) w
  have L2 := Lib.hid l2
  have L3 := Lib.hid l3
  have L4 := Lib.hid l4
  have hby := Box.new w #[.int .i64 r, .int .i64 c, .int .i64 s, .slice ao n cap] 26
  have hk : Kept No w (w.alloc (.cells #[.int .i64 r, .int .i64 c, .int .i64 s, .slice ao n cap] 26)) := (Kept.refl _ _).alloc _
  have HK := Lib.hid hk
  have HY := Lib.hid hby
  clear hk hby l2 l3 l4 hR hC hS hT
  go_enter Tryd.func19, Tryd.ntmps19
  go_upto_region 2 with fail
  have HY1 := HY.out
  have HK1 := HK.out
  generalize w.alloc (.cells #[.int .i64 r, .int .i64 c, .int .i64 s, .slice ao n cap] 26) = w0 at *
  obtain ⟨w1, hw1⟩ : ∃ w1, w0.alloc (.cells (List.replicate 32 (Value.int .i64 0)).toArray 51) = w1 := ⟨_, rfl⟩
  have k01 : Kept No w0 w1 := by rw [← hw1]; exact (Kept.refl _ _).alloc _
  have c0 : ∀ b, (two w0 w1 b).cell? ⟨w.heap.size, 0, none⟩ = some (.int .i64 r) := two_cell (HY1.cell 0) k01 HY1.lt
  have c1 : ∀ b, (two w0 w1 b).cell? ⟨w.heap.size, 1, none⟩ = some (.int .i64 c) := two_cell (HY1.cell 1) k01 HY1.lt
  have c2 : ∀ b, (two w0 w1 b).cell? ⟨w.heap.size, 2, none⟩ = some (.int .i64 s) := two_cell (HY1.cell 2) k01 HY1.lt
  have hb1 : w1.heap[w0.heap.size]? = some (.cells (List.replicate 32 (Value.int .i64 0)).toArray 51 (0, 0)) := by rw [← hw1]; exact heap_alloc_new w0 _
  have HW1 := Lib.hid hw1
  have HB1 := Lib.hid hb1
  clear HY HK hT2 hw1 hb1
  refine wp_region_alloc_tail 25 24 _ rfl rfl (by omega) (Drawn w0 w1) ⟨1, rfl⟩ (by kernel_rfl) (by kernel_rfl) ?_
  simp only [List.take_succ_cons, List.take_zero, List.drop_succ_cons, List.drop_zero]
  repeat (refine lexA_step rfl (fun K hK => ?_); go_simp; first
    | (refine hK _ ?_; clear hK K)
    | (apply Exists.intro
       refine ⟨⟨fun _ => ?_, fun _ => ?_⟩, hK _ ?_⟩
       iterate 2 (first | (go_at_call 28; with_reducible exact Calls.quiet_of_same (L2.out _)) | (go_at_call 28; with_reducible exact Calls.quiet_of_same (L3.out _)) | (go_at_call 28; with_reducible exact Calls.quiet_of_same (L4.out _)))
       clear hK K))
  refine lexA_alloc rfl rfl (.pointer (some ⟨w0.heap.size, 0, none⟩)) ?_ ?_
  · rintro _ ⟨m, rfl⟩
    refine ⟨w1.drewN m, ?_, ⟨m, rfl⟩⟩
    rw [← HW1.out]
    go_simp
    exact ⟨rfl, rfl⟩
  refine lexR_nil ?_
  rintro _ ⟨m, rfl⟩
  have hb2 : ((two w0 w1 true).drewN m).heap[w0.heap.size]? = some (.cells (List.replicate 32 (Value.int .i64 0)).toArray 51 (0, 0)) := HB1.out
  have hk2 : Kept No w ((two w0 w1 true).drewN m) := (HK1.trans k01 (fun _ _ f => f)).drewN m
  generalize (two w0 w1 true).drewN m = w2 at *
  refine wpList_store_rowTo rfl 51 _ _ rfl rfl w0.heap.size (sizeCells R C S T).toArray rfl rfl 51 _ hb2 (by kernel_rfl) (by kernel_rfl) (by kernel_rfl) ?_
  have hb3 := setRow_heap _ w0.heap.size _ (sizeCells R C S T).toArray 51 (0, 0) hb2
  have hk3 : Kept No w (w2.setRow w0.heap.size (sizeCells R C S T).toArray) := ⟨hk2.os, hk2.tape, hk2.output, by rw [setRow_size]; exact hk2.size, fun k h1 h2 => (setRow_other w2 w0.heap.size k _ (by have := HK1.size; omega)).trans (hk2.block k h1 h2)⟩
  have HB3 := Lib.hid hb3
  have HK3 := Lib.hid hk3
  clear hb2 hk2 hb3 hk3 HB1 HW1 c0 c1 c2
  generalize w2.setRow w0.heap.size (sizeCells R C S T).toArray = w3 at *
  refine wpList_nil ?_
  go_wp2_with fail
  go_ret
  exact ⟨w0.heap.size, rfl, HB3.out, HK1.size, HK3.out⟩
end Go.Proofs.YtkjhopnhphiiaaaDoor.Line
