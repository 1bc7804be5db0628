/-
  Package pick: in a range.
-/
import Derived.Test.YtaffaliplmfagaaGreatDoorRows
import Derived.Test.YtaffaliplmfagaaGreatDoorOwn
import Derived.Test.YtaffaliplmfagaaGreatDoorShelf
import Derived.WalkKit
import Derived.Lib.Hide
set_option linter.unusedVariables false
namespace Go.Proofs.YtaffaliplmfagaaGreatDoor.Pick
open Go.RowKit Go.Proofs.YtaffaliplmfagaaGreatDoor.Own

theorem in_is (n lo hi : Int) (w : World) :
    Calls Tryz.prog 46 #[.int .i64 n, .int .i64 lo, .int .i64 hi] w fun e w' => e = .returned (.bool (decide (lo ≤ n ∧ n ≤ hi))) ∧ w' = w := by
  go_enter Tryz.func46, Tryz.ntmps46
  by_cases h0 : lo ≤ n
  · go_wp2_with fail
    all_goals
      go_ret
      simp
      omega
  · go_wp2_with fail
    all_goals
      go_ret
      simp
      omega

end Go.Proofs.YtaffaliplmfagaaGreatDoor.Pick
