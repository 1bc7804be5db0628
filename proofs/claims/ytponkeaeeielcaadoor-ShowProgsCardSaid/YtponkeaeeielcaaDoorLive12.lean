/-
  Package show's statements: alive.
-/
import Derived.Test.YtponkeaeeielcaaDoorShow2
import Derived.BigQuiet
set_option linter.unusedVariables false
namespace Go.Proofs.YtponkeaeeielcaaDoor.Line
open Go.RowKit Go.Sort Go.Proofs.YtponkeaeeielcaaDoor.Own Go.Proofs.YtponkeaeeielcaaDoor.Conv

set_option maxHeartbeats 2000000 in
theorem count_one (w : World) (g o : Nat) (hg : g < w.heap.size) (ao : Option Addr) (c : Nat) (h : w.cell? ⟨g, o, none⟩ = some (.slice ao 0 c)) :
    Calls Tryd.prog 13 #[.agg #[.int .i64 0, .int .i64 0, .int .i64 0, .slice (some ⟨g, o, none⟩) 1 1]] w fun e w' => e = .returned (.int .i64 2) ∧ Kept No w w' := by
  go_enter Tryd.func13, Tryd.ntmps13
  go_wp2_with fail
  go_loopw [3, 9] (fun m i wr => ∃ k : Nat, k ≤ 1 ∧ i = .int .i64 k ∧ m = .int .i64 (1 + k) ∧ Kept No w wr) (fun _ i _ => 1 - (intOf i).toNat)
  case atStart => exact ⟨0, by omega, rfl, rfl, (Kept.refl _ _).alloc _⟩
  case round =>
    obtain ⟨k, hk, rfl, rfl, hK⟩ := hrel
    by_cases hlt : k = 0
    · subst hlt
      have c0 : wr.cell? ⟨g, o, none⟩ = some (.slice ao 0 c) := (hK.cell (p := ⟨g, o, none⟩) hg id).trans h
      simp only [Int.natCast_zero]
      go_wp2_with fail
      go_roundw
      case rel => exact ⟨1, by omega, rfl, rfl, hK⟩
      case measure => simp [intOf]
    · obtain rfl : k = 1 := by omega
      simp only [Int.natCast_one]
      go_wp2_with fail
      go_ret
      exact ⟨rfl, hK⟩

set_option maxHeartbeats 4000000 in
theorem alive_is (w : World) (hT : Door.Tabs w) : Calls Tryd.prog 5 #[] w fun e w' => e = .returned (.bool true) ∧ Kept No w w' := by
  have n1 : instrT 14 0 1 0 0 = [108, 111, 97, 100, 32, 48, 32, 49, 32, 48] := by decide +kernel
  have N1 := Lib.hid n1
  have HT := Lib.hid hT
  have b0 : int64 0 := ⟨by omega, by omega⟩
  have b1 : int64 1 := ⟨by omega, by omega⟩
  have B0 := Lib.hid b0
  have B1 := Lib.hid b1
  clear n1 hT b0 b1
  go_enter Tryd.func5, Tryd.ntmps5
  go_wp2_with fail
  refine (show_in 14 0 1 0 0 B0.out B1.out B0.out B0.out (by omega) w HT.out).mono ?_
  rw [N1.out]
  rintro e w1 ⟨rfl, k1⟩
  have K1 := Lib.hid k1
  clear k1
  go_wp2_with fail
  have hb := Box.new (w1.alloc (.cells #[] 23)) #[.slice (some ⟨w1.heap.size, 0, none⟩) 0 0] 42
  rw [show (w1.alloc (.cells #[] 23)).heap.size = w1.heap.size + 1 from by simp] at hb
  refine (count_one _ (w1.heap.size + 1) 0 hb.lt _ 0 (hb.cell 0)).mono ?_
  rintro e w2 ⟨rfl, k2⟩
  have K2 := Lib.hid (((K1.out.alloc (.cells #[] 23)).alloc (.cells #[.slice (some ⟨w1.heap.size, 0, none⟩) 0 0] 42)).trans k2 (fun _ _ f => f))
  clear k2 hb
  go_wp2_with fail
  go_ret
  exact ⟨rfl, K2.out⟩
end Go.Proofs.YtponkeaeeielcaaDoor.Line
