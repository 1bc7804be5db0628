/-
  What the laid tables give the walks: the powers of ten.
-/
import Derived.Test.YtaffaliplmfagaaDoorRows
import Derived.Test.YtaffaliplmfagaaDoorOwn
import Derived.Lib.LaidTab
import Derived.Lib.ItoaNum
import Derived.Stop.LaidErr
import Derived.MakeChecks
import Derived.ProofKit
import Derived.LaidMore
import Derived.OpenShut
namespace Go.Proofs.YtaffaliplmfagaaDoor.Door
open Go Go.Proofs.YtaffaliplmfagaaDoor.Own

theorem var_kept {w w' : World} {n : String} {cs : Array Value} (h : w.var? Tryd.prog n = some cs) (hk : Kept No w w') : w'.var? Tryd.prog n = some cs := by
  unfold World.var? at h ⊢
  cases hg : Tryd.prog.globalNamed n with
  | none => simp [hg] at h
  | some g =>
    simp only [hg, Option.bind_some] at h ⊢
    have hlt : g < w.heap.size := by
      rcases Nat.lt_or_ge g w.heap.size with h' | h'
      · exact h'
      · simp [Array.getElem?_eq_none h'] at h
    rw [hk.block g hlt id]
    exact h

/-- The table of the powers of ten lies in its variable. -/
def Tabs (w : World) : Prop := Lib.TabIs Tryd.prog w "internal/strconv.uint64pow10" .u64 Lib.pow10Tab
theorem Tabs.pow10 {w : World} (h : Tabs w) : Lib.TabIs Tryd.prog w "internal/strconv.uint64pow10" .u64 Lib.pow10Tab := h
theorem Tabs.kept {w w' : World} (h : Tabs w) (hk : Kept No w w') : Tabs w' := var_kept h hk
theorem gP : Tryd.prog.globalNamed "internal/strconv.uint64pow10" = some ((Tryd.prog.globalNamed "internal/strconv.uint64pow10").getD 0) := by kernel_rfl
theorem tP : (Tryd.prog.globals[(Tryd.prog.globalNamed "internal/strconv.uint64pow10").getD 0]?).map (·.type) = some 118 := by kernel_rfl
theorem cU : Tryd.prog.cellsOf 82 = 1 := by kernel_rfl
theorem cA : Tryd.prog.cellsOf 118 = 20 := by kernel_rfl
theorem tab_eq : (Rows.laid_internal_strconv_uint64pow10 : DataW Unit) = Lib.tabData .u64 Lib.pow10Tab := by kernel_rfl
theorem tabs_of {W : World} (h : laidMetH Tryd.prog [("math/bits.deBruijn32tab", Rows.laid_math_bits_deBruijn32tab), ("math/bits.deBruijn64tab", Rows.laid_math_bits_deBruijn64tab), ("internal/strconv.uint64pow10", Rows.laid_internal_strconv_uint64pow10)] W) : Tabs W := by
  rw [MakeChecks.laidMetH_plain _ _ _ (by kernel_rfl), tab_eq] at h
  exact Lib.tabIs_of_head gP tP Tryd.underlying118 Tryd.underlying82 cU cA h.tail.tail
end Go.Proofs.YtaffaliplmfagaaDoor.Door
