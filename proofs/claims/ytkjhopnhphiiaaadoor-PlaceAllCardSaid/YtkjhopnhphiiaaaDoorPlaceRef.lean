/-
  Places as the reference tells them.
-/
import Derived.Test.YtkjhopnhphiiaaaDoorPlaceLess
import Derived.BigQuiet
set_option linter.unusedVariables false
namespace Go.Proofs.YtkjhopnhphiiaaaDoor.Line
open Go.RowKit Go.Sort Go.Proofs.YtkjhopnhphiiaaaDoor.Own Go.Proofs.YtkjhopnhphiiaaaDoor.Conv

theorem in_is (n lo hi : Int) (w : World) :
    Calls Tryd.prog 21 #[.int .i64 n, .int .i64 lo, .int .i64 hi] w fun e w' => e = .returned (.bool (decide (lo ≤ n ∧ n ≤ hi))) ∧ w' = w := by
  go_enter Tryd.func21, Tryd.ntmps21
  by_cases h0 : lo ≤ n
  · go_wp2_with fail
    all_goals
      go_ret
      simp
      omega
  · go_wp2_with fail
    all_goals
      go_ret
      simp
      omega
/-- The nearest. -/
def clampI (n lo hi : Int) : Int := if n < lo then lo else if hi < n then hi else n
theorem clamp_nat (n : Int) (m : Nat) : ∃ k : Nat, clampI n 0 m = k ∧ k ≤ m := by
  unfold clampI
  split
  · exact ⟨0, rfl, by omega⟩
  · split
    · exact ⟨m, rfl, by omega⟩
    · exact ⟨n.toNat, by omega, by omega⟩
theorem clamp_is (n lo hi : Int) (h : lo ≤ hi) (w : World) :
    Calls Tryd.prog 28 #[.int .i64 n, .int .i64 lo, .int .i64 hi] w fun e w' => e = .returned (.int .i64 (clampI n lo hi)) ∧ w' = w := by
  unfold clampI
  by_cases h0 : n < lo
  · rw [if_pos h0]
    go_enter Tryd.func28, Tryd.ntmps28
    go_wp2_with fail
    go_ret
    exact ⟨rfl, rfl⟩
  · rw [if_neg h0]
    by_cases h1 : hi < n
    · rw [if_pos h1]
      go_enter Tryd.func28, Tryd.ntmps28
      go_wp2_with fail
      go_ret
      exact ⟨congrArg (fun z => Ending.returned (Value.int .i64 z)) (show min n hi = hi by omega), rfl⟩
    · rw [if_neg h1]
      go_enter Tryd.func28, Tryd.ntmps28
      go_wp2_with fail
      go_ret
      exact ⟨congrArg (fun z => Ending.returned (Value.int .i64 z)) (show min n hi = n by omega), rfl⟩
theorem near_is (n lo hi : Int) (h : lo ≤ hi) (w : World) :
    Calls Tryd.prog 23 #[.int .i64 n, .int .i64 lo, .int .i64 hi] w fun e w' => e = .returned (.int .i64 (clampI n lo hi)) ∧ w' = w := by
  unfold clampI
  by_cases h0 : n < lo
  · rw [if_pos h0]
    go_enter Tryd.func23, Tryd.ntmps23
    go_wp2_with fail
    go_ret
    exact ⟨rfl, rfl⟩
  · rw [if_neg h0]
    by_cases h1 : hi < n
    · rw [if_pos h1]
      go_enter Tryd.func23, Tryd.ntmps23
      go_wp2_with fail
      go_ret
      exact ⟨rfl, rfl⟩
    · rw [if_neg h1]
      go_enter Tryd.func23, Tryd.ntmps23
      go_wp2_with fail
      go_ret
      exact ⟨rfl, rfl⟩
theorem low_is (n hi : Int) (h : 0 ≤ hi) (w : World) :
    Calls Tryd.prog 20 #[.int .i64 n, .int .i64 hi] w fun e w' => e = .returned (.int .i64 (clampI n 0 hi)) ∧ w' = w := by
  unfold clampI
  by_cases h0 : n < 0
  · rw [if_pos h0]
    go_enter Tryd.func20, Tryd.ntmps20
    go_wp2_with fail
    go_ret
    exact ⟨rfl, rfl⟩
  · rw [if_neg h0]
    by_cases h1 : hi < n
    · rw [if_pos h1]
      go_enter Tryd.func20, Tryd.ntmps20
      go_wp2_with fail
      go_ret
      exact ⟨rfl, rfl⟩
    · rw [if_neg h1]
      go_enter Tryd.func20, Tryd.ntmps20
      go_wp2_with fail
      go_ret
      exact ⟨rfl, rfl⟩
end Go.Proofs.YtkjhopnhphiiaaaDoor.Line
