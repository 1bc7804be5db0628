/-
  Package pick: in a range.
-/
import Derived.Test.YtaffaliplmfagaaDoorRows
import Derived.Test.YtaffaliplmfagaaDoorOwn
import Derived.Test.YtaffaliplmfagaaDoorShelf
import Derived.WalkKit
import Derived.Lib.Hide
set_option linter.unusedVariables false
namespace Go.Proofs.YtaffaliplmfagaaDoor.Pick
open Go.RowKit Go.Proofs.YtaffaliplmfagaaDoor.Own

theorem in_is (n lo hi : Int) (w : World) :
    Calls Tryd.prog 28 #[.int .i64 n, .int .i64 lo, .int .i64 hi] w fun e w' => e = .returned (.bool (decide (lo ≤ n ∧ n ≤ hi))) ∧ w' = w := by
  go_enter Tryd.func28, Tryd.ntmps28
  by_cases h0 : lo ≤ n
  · go_wp2_with fail
    all_goals
      go_ret
      simp
      omega
  · go_wp2_with fail
    all_goals
      go_ret
      simp
      omega

end Go.Proofs.YtaffaliplmfagaaDoor.Pick
