/-
  An instruction's line, as the code tells it.
-/
import Derived.Test.YtjpddfnkamahfaaDoorShow
import Derived.BigQuiet
set_option linter.unusedVariables false
set_option linter.unusedSimpArgs false
namespace Go.Proofs.YtjpddfnkamahfaaDoor.Line
open Go.RowKit Go.Sort Go.Proofs.YtjpddfnkamahfaaDoor.Own Go.Proofs.YtjpddfnkamahfaaDoor.Conv

theorem idx0 (a b c n : Int) (w : World) : (Instr.index 47 (.agg #[.int .i64 a, .int .i64 b, .int .i64 c, .int .i64 n]) (.int .i64 0)).run Tryd.prog w = .ok (.int .i64 a) w := by kernel_rfl
theorem idx1 (a b c n : Int) (w : World) : (Instr.index 47 (.agg #[.int .i64 a, .int .i64 b, .int .i64 c, .int .i64 n]) (.int .i64 1)).run Tryd.prog w = .ok (.int .i64 b) w := by kernel_rfl
theorem idx2 (a b c n : Int) (w : World) : (Instr.index 47 (.agg #[.int .i64 a, .int .i64 b, .int .i64 c, .int .i64 n]) (.int .i64 2)).run Tryd.prog w = .ok (.int .i64 c) w := by kernel_rfl
theorem idx3 (a b c n : Int) (w : World) : (Instr.index 47 (.agg #[.int .i64 a, .int .i64 b, .int .i64 c, .int .i64 n]) (.int .i64 3)).run Tryd.prog w = .ok (.int .i64 n) w := by kernel_rfl

end Go.Proofs.YtjpddfnkamahfaaDoor.Line
