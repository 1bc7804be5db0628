/-
  Package pick's seat: no table is wanted.
-/
import Derived.Test.YtgcdimfbkpbhnaaDoorRows
import Derived.Test.YtgcdimfbkpbhnaaDoorOwn
import Derived.MakeChecks
import Derived.ProofKit
import Derived.LaidMore
import Derived.OpenShut
namespace Go.Proofs.YtgcdimfbkpbhnaaDoor.Door
open Go
def Tabs (_ : World) : Prop := True
theorem tabs_of {W : World} {l : List (String × DataW Unit)} (_ : laidMetH Tryd.prog l W) : Tabs W := trivial
end Go.Proofs.YtgcdimfbkpbhnaaDoor.Door
