/-
  The table of the instructions.
-/
import Derived.Test.YtjpddfnkamahfaaDoorOps
import Derived.Great.BuildSlice
import Derived.Deep.DeepCutAuto
import Derived.Deep.CutBlock
set_option linter.unusedVariables false
namespace Go.Proofs.YtjpddfnkamahfaaDoor.Line
open Go.RowKit Go.Sort Go.Proofs.YtjpddfnkamahfaaDoor.Own Go.Proofs.YtjpddfnkamahfaaDoor.Conv

theorem setRow_kept {S : Nat → Prop} {w w1 : World} {o : Array Value} {t : TypeId} {fr : Nat × Nat} (hk : Kept S w w1) (hb : w1.heap[w.heap.size]? = some (.cells o t fr)) (cs : Array Value) : Kept S w (w1.setRow w.heap.size cs) :=
  ⟨hk.os, hk.tape, hk.output, by rw [setRow_size]; exact hk.size, fun k hk1 hk2 => (setRow_other w1 w.heap.size k cs (by omega)).trans (hk.block k hk1 hk2)⟩

set_option maxRecDepth 100000 in
set_option maxHeartbeats 4000000 in
theorem kinds_is (w : World) : Calls Tryd.prog 35 #[] w fun e w' => e = .returned (.agg kindCells.toArray) ∧ Kept No w w' := by
  go_enter Tryd.func35, Tryd.ntmps35
  go_upto_region 1 with fail
  refine wp_region_lit ?_
  refine wpList_buildTo rfl 65 _ rfl _ rfl #[.string ⟨(nameK 1).toArray⟩, .string ⟨(shapeK 1).toArray⟩] (by kernel_rfl) ?_
  refine wpList_buildTo rfl 65 _ rfl _ rfl #[.string ⟨(nameK 2).toArray⟩, .string ⟨(shapeK 2).toArray⟩] (by kernel_rfl) ?_
  refine wpList_buildTo rfl 65 _ rfl _ rfl #[.string ⟨(nameK 3).toArray⟩, .string ⟨(shapeK 3).toArray⟩] (by kernel_rfl) ?_
  refine wpList_buildTo rfl 65 _ rfl _ rfl #[.string ⟨(nameK 4).toArray⟩, .string ⟨(shapeK 4).toArray⟩] (by kernel_rfl) ?_
  refine wpList_buildTo rfl 65 _ rfl _ rfl #[.string ⟨(nameK 5).toArray⟩, .string ⟨(shapeK 5).toArray⟩] (by kernel_rfl) ?_
  refine wpList_buildTo rfl 65 _ rfl _ rfl #[.string ⟨(nameK 6).toArray⟩, .string ⟨(shapeK 6).toArray⟩] (by kernel_rfl) ?_
  refine wpList_buildTo rfl 65 _ rfl _ rfl #[.string ⟨(nameK 7).toArray⟩, .string ⟨(shapeK 7).toArray⟩] (by kernel_rfl) ?_
  refine wpList_buildTo rfl 65 _ rfl _ rfl #[.string ⟨(nameK 8).toArray⟩, .string ⟨(shapeK 8).toArray⟩] (by kernel_rfl) ?_
  refine wpList_buildTo rfl 65 _ rfl _ rfl #[.string ⟨(nameK 9).toArray⟩, .string ⟨(shapeK 9).toArray⟩] (by kernel_rfl) ?_
  refine wpList_buildTo rfl 65 _ rfl _ rfl #[.string ⟨(nameK 10).toArray⟩, .string ⟨(shapeK 10).toArray⟩] (by kernel_rfl) ?_
  refine wpList_buildTo rfl 65 _ rfl _ rfl #[.string ⟨(nameK 11).toArray⟩, .string ⟨(shapeK 11).toArray⟩] (by kernel_rfl) ?_
  refine wpList_buildTo rfl 65 _ rfl _ rfl #[.string ⟨(nameK 12).toArray⟩, .string ⟨(shapeK 12).toArray⟩] (by kernel_rfl) ?_
  refine wpList_buildTo rfl 65 _ rfl _ rfl #[.string ⟨(nameK 13).toArray⟩, .string ⟨(shapeK 13).toArray⟩] (by kernel_rfl) ?_
  refine wpList_buildTo rfl 65 _ rfl _ rfl #[.string ⟨(nameK 14).toArray⟩, .string ⟨(shapeK 14).toArray⟩] (by kernel_rfl) ?_
  refine wpList_buildTo rfl 65 _ rfl _ rfl #[.string ⟨(nameK 15).toArray⟩, .string ⟨(shapeK 15).toArray⟩] (by kernel_rfl) ?_
  refine wpList_buildTo rfl 65 _ rfl _ rfl #[.string ⟨(nameK 16).toArray⟩, .string ⟨(shapeK 16).toArray⟩] (by kernel_rfl) ?_
  refine wpList_buildTo rfl 65 _ rfl _ rfl #[.string ⟨(nameK 17).toArray⟩, .string ⟨(shapeK 17).toArray⟩] (by kernel_rfl) ?_
  refine wpList_buildTo rfl 65 _ rfl _ rfl #[.string ⟨(nameK 18).toArray⟩, .string ⟨(shapeK 18).toArray⟩] (by kernel_rfl) ?_
  refine wpList_buildTo rfl 65 _ rfl _ rfl #[.string ⟨(nameK 19).toArray⟩, .string ⟨(shapeK 19).toArray⟩] (by kernel_rfl) ?_
  refine wpList_buildTo rfl 65 _ rfl _ rfl #[.string ⟨(nameK 20).toArray⟩, .string ⟨(shapeK 20).toArray⟩] (by kernel_rfl) ?_
  refine wpList_buildTo rfl 65 _ rfl _ rfl #[.string ⟨(nameK 21).toArray⟩, .string ⟨(shapeK 21).toArray⟩] (by kernel_rfl) ?_
  refine wpList_buildTo rfl 65 _ rfl _ rfl #[.string ⟨(nameK 22).toArray⟩, .string ⟨(shapeK 22).toArray⟩] (by kernel_rfl) ?_
  refine wpList_buildTo rfl 65 _ rfl _ rfl #[.string ⟨(nameK 23).toArray⟩, .string ⟨(shapeK 23).toArray⟩] (by kernel_rfl) ?_
  refine wpList_buildTo rfl 65 _ rfl _ rfl #[.string ⟨(nameK 24).toArray⟩, .string ⟨(shapeK 24).toArray⟩] (by kernel_rfl) ?_
  refine wpList_buildTo rfl 65 _ rfl _ rfl #[.string ⟨(nameK 25).toArray⟩, .string ⟨(shapeK 25).toArray⟩] (by kernel_rfl) ?_
  refine wpList_buildTo rfl 66 _ rfl _ rfl kindCells.toArray (by kernel_rfl) ?_
  have hb0 : (w.alloc (.cells (List.replicate 52 (Value.string ⟨#[]⟩)).toArray 66)).heap[w.heap.size]? = some (.cells (List.replicate 52 (Value.string ⟨#[]⟩)).toArray 66 (0, 0)) := heap_alloc_new w _
  have hk0 : Kept No w (w.alloc (.cells (List.replicate 52 (Value.string ⟨#[]⟩)).toArray 66)) := (Kept.refl _ _).alloc _
  have hk1 := setRow_kept hk0 hb0 kindCells.toArray
  refine wpList_store_rowTo rfl 66 _ _ rfl rfl w.heap.size kindCells.toArray (by kernel_rfl) (by kernel_rfl) 66 _ hb0 (by kernel_rfl) (by kernel_rfl) (by kernel_rfl) ?_
  have hb1 := setRow_heap _ w.heap.size _ kindCells.toArray 66 (0, 0) hb0
  refine wpList_nil ?_
  rename_i hK
  refine hK _ _ ?_
  go_wp2_with fail
  refine bodyPost_ret (results_cell_row rfl _ _ w.heap.size 66 kindCells.toArray (0, 0) _ (by kernel_rfl) hb1 Tryd.underlying66 rfl (by kernel_rfl)) rfl ⟨rfl, hk1⟩
end Go.Proofs.YtjpddfnkamahfaaDoor.Line
