/-
  Package set's seat: what the laid table gives the walks.
-/
import Derived.Test.YtpggdafhpdipjaaDoorRows
import Derived.Test.YtpggdafhpdipjaaDoorOwn
import Derived.Lib.LaidTab
import Derived.Lib.TrailingZeros
import Derived.MakeChecks
import Derived.ProofKit
import Derived.LaidMore
import Derived.OpenShut
namespace Go.Proofs.YtpggdafhpdipjaaDoor.Door
open Go

/-- The table lies in its variable. -/
def Tabs (w : World) : Prop := ∀ i, i < 64 → w.cell? ⟨0, i, none⟩ = some (.int .u8 (Lib.deBruijn64tab.getD i 0))
theorem g64 : Tryd.prog.globalNamed "math/bits.deBruijn64tab" = some 0 := by kernel_rfl
theorem t64 : (Tryd.prog.globals[0]?).map (·.type) = some 44 := by kernel_rfl
theorem c5 : Tryd.prog.cellsOf 5 = 1 := by kernel_rfl
theorem c44 : Tryd.prog.cellsOf 44 = 64 := by kernel_rfl
theorem tab_eq : (Rows.laid_math_bits_deBruijn64tab : DataW Unit) = Lib.tabData .u8 (Lib.deBruijn64tab.map Int.ofNat) := by kernel_rfl
theorem tabs_of {W : World} (h : laidMetH Tryd.prog [("math/bits.deBruijn64tab", Rows.laid_math_bits_deBruijn64tab)] W) : Tabs W := by
  rw [MakeChecks.laidMetH_plain _ _ _ (by kernel_rfl), tab_eq] at h
  have hT := Lib.tabIs_of_head g64 t64 Tryd.underlying44 Tryd.underlying5 c5 c44 h
  intro i hi
  have hl : Lib.deBruijn64tab.length = 64 := by decide
  rw [hT.cell g64 i (by simp; omega)]
  simp [List.getElem?_eq_getElem (show i < Lib.deBruijn64tab.length by omega), List.getD]
theorem Tabs.pos {w : World} (h : Tabs w) : 0 < w.heap.size := by
  rcases Nat.eq_zero_or_pos w.heap.size with e | e
  · exfalso
    have h2 := h 0 (by omega)
    simp [World.cell?, show w.heap[0]? = none by simp [e]] at h2
  · exact e
theorem Tabs.kept {S : Nat → Prop} {w w' : World} (h : Tabs w) (hk : Own.Kept S w w') (h0 : ¬ S 0) : Tabs w' := fun i hi => by
  have h1 := h i hi
  have hlt : 0 < w.heap.size := by
    rcases Nat.eq_zero_or_pos w.heap.size with e | e
    · exfalso
      have h2 := h 0 (by omega)
      simp [World.cell?, show w.heap[0]? = none by simp [e]] at h2
    · exact e
  rw [hk.cell (p := ⟨0, i, none⟩) hlt h0]
  exact h1
end Go.Proofs.YtpggdafhpdipjaaDoor.Door
