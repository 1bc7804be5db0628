/-
  warrenerref13.with.
-/
import Derived.Test.YtjpddfnkamahfaaDoorAsmIns
set_option linter.unusedVariables false
set_option linter.unusedSimpArgs false
namespace Go.Proofs.YtjpddfnkamahfaaDoor.Line
open Go.RowKit Go.Sort Go.Proofs.YtjpddfnkamahfaaDoor.Own Go.Proofs.YtjpddfnkamahfaaDoor.Conv Go.Proofs.YtjpddfnkamahfaaDoor.Calm

def insW (z a b c n : Int) (k : Nat) (v : Int) : Array Value := insC z (if k = 0 then v else a) (if k = 1 then v else b) (if k = 2 then v else c) (if k = 3 then v else n)
theorem box_other {W : World} {b : Nat} {cs : Array Value} {t : TypeId} (h : Box W b cs t) (a : Addr) (u : Value) (hb : b ≠ a.block) : Box (W.setCell a u) b cs t := (Below.heap_setCell _ _ _ _ hb).trans h

set_option maxRecDepth 100000 in
set_option maxHeartbeats 4000000 in
theorem with_is (z a b c n v : Int) (k : Nat) (hk : k < 4) (w : World) :
    Calls Tryd.prog 25 #[.agg #[.int .i64 z, .int .i64 a, .int .i64 b, .int .i64 c, .int .i64 n], .int .i64 k, .int .i64 v] w fun e w' => e = .returned (.agg (insW z a b c n k v)) ∧ Kept No w w' := by
  have hx := (Box.new w #[.int .i64 z, .int .i64 a, .int .i64 b, .int .i64 c, .int .i64 n] 25).alloc (.cells #[.int .i64 0, .int .i64 0, .int .i64 0, .int .i64 0, .int .i64 0] 25)
  have ho := Box.new (w.alloc (.cells #[.int .i64 z, .int .i64 a, .int .i64 b, .int .i64 c, .int .i64 n] 25)) #[.int .i64 0, .int .i64 0, .int .i64 0, .int .i64 0, .int .i64 0] 25
  rw [World.size_alloc] at ho
  have hkp : Kept No w ((w.alloc (.cells #[.int .i64 z, .int .i64 a, .int .i64 b, .int .i64 c, .int .i64 n] 25)).alloc (.cells #[.int .i64 0, .int .i64 0, .int .i64 0, .int .i64 0, .int .i64 0] 25)) := ((Kept.refl _ _).alloc _).alloc _
  have HX := Lib.hid hx
  have HO := Lib.hid ho
  have HK := Lib.hid hkp
  clear hx ho hkp
  rcases four hk with rfl | rfl | rfl | rfl
  · clear hk
    simp only [Int.natCast_zero, Int.natCast_one, Int.cast_ofNat_Int]
    go_enter Tryd.func25, Tryd.ntmps25
    go_upto_region 1 with fail
    generalize (w.alloc (.cells #[.int .i64 z, .int .i64 a, .int .i64 b, .int .i64 c, .int .i64 n] 25)).alloc (.cells #[.int .i64 0, .int .i64 0, .int .i64 0, .int .i64 0, .int .i64 0] 25) = w0 at *
    have f0 : w0.frozen? ⟨w.heap.size, 1, none⟩ = false := HX.out.frozen 1
    have c0 : w0.cell? ⟨w.heap.size, 1, none⟩ = some (.int .i64 a) := HX.out.cell 1
    have hx1 : Box (w0.setCell ⟨w.heap.size, 1, none⟩ (.int .i64 v)) w.heap.size #[.int .i64 z, .int .i64 v, .int .i64 b, .int .i64 c, .int .i64 n] 25 := Box.set HX.out 1 (.int .i64 v)
    have ho1 : Box (w0.setCell ⟨w.heap.size, 1, none⟩ (.int .i64 v)) (w.heap.size + 1) #[.int .i64 0, .int .i64 0, .int .i64 0, .int .i64 0, .int .i64 0] 25 := box_other HO.out ⟨w.heap.size, 1, none⟩ _ (by show w.heap.size + 1 ≠ w.heap.size; omega)
    have hk1 : Kept No w (w0.setCell ⟨w.heap.size, 1, none⟩ (.int .i64 v)) := HK.out.setCell (p := ⟨w.heap.size, 1, none⟩) (fun h => absurd h (Nat.lt_irrefl _)) _
    go_upto_region 9 with fail
    generalize w0.setCell ⟨w.heap.size, 1, none⟩ (.int .i64 v) = w1 at *
    clear f0 c0
    have d0 := hx1.cell 0
    have d1 := hx1.cell 1
    have d2 := hx1.cell 2
    have d3 := hx1.cell 3
    have d4 := hx1.cell 4
    simp only [List.getElem?_toArray, List.getElem?_cons_zero, List.getElem?_cons_succ] at d0 d1 d2 d3 d4
    go_wp2_with (refine wpList_store_rowTo rfl 25 _ _ rfl rfl (w.heap.size + 1) #[.int .i64 z, .int .i64 v, .int .i64 b, .int .i64 c, .int .i64 n] (by kernel_rfl) (by kernel_rfl) 25 _ ho1 (by kernel_rfl) (by kernel_rfl) (by kernel_rfl) ?_)
    refine bodyPost_ret (results_cell_row rfl _ _ (w.heap.size + 1) 25 #[.int .i64 z, .int .i64 v, .int .i64 b, .int .i64 c, .int .i64 n] (0, 0) _ rfl ho1.row Tryd.underlying25 rfl (by kernel_rfl)) rfl ⟨rfl, row_kept hk1 (by omega) _⟩
  · clear hk
    simp only [Int.natCast_zero, Int.natCast_one, Int.cast_ofNat_Int]
    go_enter Tryd.func25, Tryd.ntmps25
    go_upto_region 1 with fail
    generalize (w.alloc (.cells #[.int .i64 z, .int .i64 a, .int .i64 b, .int .i64 c, .int .i64 n] 25)).alloc (.cells #[.int .i64 0, .int .i64 0, .int .i64 0, .int .i64 0, .int .i64 0] 25) = w0 at *
    have f0 : w0.frozen? ⟨w.heap.size, 2, none⟩ = false := HX.out.frozen 2
    have c0 : w0.cell? ⟨w.heap.size, 2, none⟩ = some (.int .i64 b) := HX.out.cell 2
    have hx1 : Box (w0.setCell ⟨w.heap.size, 2, none⟩ (.int .i64 v)) w.heap.size #[.int .i64 z, .int .i64 a, .int .i64 v, .int .i64 c, .int .i64 n] 25 := Box.set HX.out 2 (.int .i64 v)
    have ho1 : Box (w0.setCell ⟨w.heap.size, 2, none⟩ (.int .i64 v)) (w.heap.size + 1) #[.int .i64 0, .int .i64 0, .int .i64 0, .int .i64 0, .int .i64 0] 25 := box_other HO.out ⟨w.heap.size, 2, none⟩ _ (by show w.heap.size + 1 ≠ w.heap.size; omega)
    have hk1 : Kept No w (w0.setCell ⟨w.heap.size, 2, none⟩ (.int .i64 v)) := HK.out.setCell (p := ⟨w.heap.size, 2, none⟩) (fun h => absurd h (Nat.lt_irrefl _)) _
    go_upto_region 9 with fail
    generalize w0.setCell ⟨w.heap.size, 2, none⟩ (.int .i64 v) = w1 at *
    clear f0 c0
    have d0 := hx1.cell 0
    have d1 := hx1.cell 1
    have d2 := hx1.cell 2
    have d3 := hx1.cell 3
    have d4 := hx1.cell 4
    simp only [List.getElem?_toArray, List.getElem?_cons_zero, List.getElem?_cons_succ] at d0 d1 d2 d3 d4
    go_wp2_with (refine wpList_store_rowTo rfl 25 _ _ rfl rfl (w.heap.size + 1) #[.int .i64 z, .int .i64 a, .int .i64 v, .int .i64 c, .int .i64 n] (by kernel_rfl) (by kernel_rfl) 25 _ ho1 (by kernel_rfl) (by kernel_rfl) (by kernel_rfl) ?_)
    refine bodyPost_ret (results_cell_row rfl _ _ (w.heap.size + 1) 25 #[.int .i64 z, .int .i64 a, .int .i64 v, .int .i64 c, .int .i64 n] (0, 0) _ rfl ho1.row Tryd.underlying25 rfl (by kernel_rfl)) rfl ⟨rfl, row_kept hk1 (by omega) _⟩
  · clear hk
    simp only [Int.natCast_zero, Int.natCast_one, Int.cast_ofNat_Int]
    go_enter Tryd.func25, Tryd.ntmps25
    go_upto_region 1 with fail
    generalize (w.alloc (.cells #[.int .i64 z, .int .i64 a, .int .i64 b, .int .i64 c, .int .i64 n] 25)).alloc (.cells #[.int .i64 0, .int .i64 0, .int .i64 0, .int .i64 0, .int .i64 0] 25) = w0 at *
    have f0 : w0.frozen? ⟨w.heap.size, 3, none⟩ = false := HX.out.frozen 3
    have c0 : w0.cell? ⟨w.heap.size, 3, none⟩ = some (.int .i64 c) := HX.out.cell 3
    have hx1 : Box (w0.setCell ⟨w.heap.size, 3, none⟩ (.int .i64 v)) w.heap.size #[.int .i64 z, .int .i64 a, .int .i64 b, .int .i64 v, .int .i64 n] 25 := Box.set HX.out 3 (.int .i64 v)
    have ho1 : Box (w0.setCell ⟨w.heap.size, 3, none⟩ (.int .i64 v)) (w.heap.size + 1) #[.int .i64 0, .int .i64 0, .int .i64 0, .int .i64 0, .int .i64 0] 25 := box_other HO.out ⟨w.heap.size, 3, none⟩ _ (by show w.heap.size + 1 ≠ w.heap.size; omega)
    have hk1 : Kept No w (w0.setCell ⟨w.heap.size, 3, none⟩ (.int .i64 v)) := HK.out.setCell (p := ⟨w.heap.size, 3, none⟩) (fun h => absurd h (Nat.lt_irrefl _)) _
    go_upto_region 9 with fail
    generalize w0.setCell ⟨w.heap.size, 3, none⟩ (.int .i64 v) = w1 at *
    clear f0 c0
    have d0 := hx1.cell 0
    have d1 := hx1.cell 1
    have d2 := hx1.cell 2
    have d3 := hx1.cell 3
    have d4 := hx1.cell 4
    simp only [List.getElem?_toArray, List.getElem?_cons_zero, List.getElem?_cons_succ] at d0 d1 d2 d3 d4
    go_wp2_with (refine wpList_store_rowTo rfl 25 _ _ rfl rfl (w.heap.size + 1) #[.int .i64 z, .int .i64 a, .int .i64 b, .int .i64 v, .int .i64 n] (by kernel_rfl) (by kernel_rfl) 25 _ ho1 (by kernel_rfl) (by kernel_rfl) (by kernel_rfl) ?_)
    refine bodyPost_ret (results_cell_row rfl _ _ (w.heap.size + 1) 25 #[.int .i64 z, .int .i64 a, .int .i64 b, .int .i64 v, .int .i64 n] (0, 0) _ rfl ho1.row Tryd.underlying25 rfl (by kernel_rfl)) rfl ⟨rfl, row_kept hk1 (by omega) _⟩
  · clear hk
    simp only [Int.natCast_zero, Int.natCast_one, Int.cast_ofNat_Int]
    go_enter Tryd.func25, Tryd.ntmps25
    go_upto_region 1 with fail
    generalize (w.alloc (.cells #[.int .i64 z, .int .i64 a, .int .i64 b, .int .i64 c, .int .i64 n] 25)).alloc (.cells #[.int .i64 0, .int .i64 0, .int .i64 0, .int .i64 0, .int .i64 0] 25) = w0 at *
    have f0 : w0.frozen? ⟨w.heap.size, 4, none⟩ = false := HX.out.frozen 4
    have c0 : w0.cell? ⟨w.heap.size, 4, none⟩ = some (.int .i64 n) := HX.out.cell 4
    have hx1 : Box (w0.setCell ⟨w.heap.size, 4, none⟩ (.int .i64 v)) w.heap.size #[.int .i64 z, .int .i64 a, .int .i64 b, .int .i64 c, .int .i64 v] 25 := Box.set HX.out 4 (.int .i64 v)
    have ho1 : Box (w0.setCell ⟨w.heap.size, 4, none⟩ (.int .i64 v)) (w.heap.size + 1) #[.int .i64 0, .int .i64 0, .int .i64 0, .int .i64 0, .int .i64 0] 25 := box_other HO.out ⟨w.heap.size, 4, none⟩ _ (by show w.heap.size + 1 ≠ w.heap.size; omega)
    have hk1 : Kept No w (w0.setCell ⟨w.heap.size, 4, none⟩ (.int .i64 v)) := HK.out.setCell (p := ⟨w.heap.size, 4, none⟩) (fun h => absurd h (Nat.lt_irrefl _)) _
    go_upto_region 9 with fail
    generalize w0.setCell ⟨w.heap.size, 4, none⟩ (.int .i64 v) = w1 at *
    clear f0 c0
    have d0 := hx1.cell 0
    have d1 := hx1.cell 1
    have d2 := hx1.cell 2
    have d3 := hx1.cell 3
    have d4 := hx1.cell 4
    simp only [List.getElem?_toArray, List.getElem?_cons_zero, List.getElem?_cons_succ] at d0 d1 d2 d3 d4
    go_wp2_with (refine wpList_store_rowTo rfl 25 _ _ rfl rfl (w.heap.size + 1) #[.int .i64 z, .int .i64 a, .int .i64 b, .int .i64 c, .int .i64 v] (by kernel_rfl) (by kernel_rfl) 25 _ ho1 (by kernel_rfl) (by kernel_rfl) (by kernel_rfl) ?_)
    refine bodyPost_ret (results_cell_row rfl _ _ (w.heap.size + 1) 25 #[.int .i64 z, .int .i64 a, .int .i64 b, .int .i64 c, .int .i64 v] (0, 0) _ rfl ho1.row Tryd.underlying25 rfl (by kernel_rfl)) rfl ⟨rfl, row_kept hk1 (by omega) _⟩
end Go.Proofs.YtjpddfnkamahfaaDoor.Line
