/-
  copy(..) at elements of several cells; what lies behind a store of a row of cells.
-/
import Derived.Test.YtnggbfdnlmkklaaDoorOwn
import Derived.Shelf.Spec.SlicesInsertGrow
set_option linter.unusedVariables false
namespace Go.Proofs.YtnggbfdnlmkklaaDoor.Own
open Go Go.RowKit

theorem run_copy_size {P : Program} (w : World) (dT sT ty elem : TypeId) (size b o dLen dCap : Nat) (a : Addr) (sLen sCap : Nat) (cs : List Value)
    (hu : P.underlying dT = some (.slice elem)) (hs : (P.info? elem).map (·.size) = some size) (hn : cs.length = Nat.min sLen dLen * size)
    (hsrc : ∀ j v, cs[j]? = some v → w.cell? (a.add j) = some v) (hc : ∀ j, j < cs.length → (w.cell? ⟨b, o + j, none⟩).isSome = true) (hf : ∀ j, j < cs.length → w.frozen? ⟨b, o + j, none⟩ = false) (h1 : ∀ v ∈ cs, v.oneCell' = true) :
    (Builtin.copy_ #[dT, sT] ty #[.slice (some ⟨b, o, none⟩) dLen dCap, .slice (some a) sLen sCap]).run P w = .ok (goInt (Nat.min sLen dLen)) (w.setCells b o cs) := by
  have hl := run_loadCells_list (P := P) w a cs hsrc
  have hst := run_storeCells_cells (P := P) b o cs 0 w (by simpa using hc) (by simpa using hf) h1
  cases hq : P.info? elem with
  | none => simp [hq] at hs
  | some i =>
    have hi : i.size = size := by simpa [hq] using hs
    rw [hn] at hl
    simp [Builtin.copy_, run_underlying hu, Builtin.lenOf, Builtin.firstCells, sizeOf, typeInfo, hq, hi, hl, hst]
theorem Box.shape {w : World} {b : Nat} {cs : Array Value} {t : TypeId} (h : Box w b cs t) : w.shape? b = some (t, cs.size) := by
  unfold Box at h
  simp [World.shape?, h]
theorem Blk.shape {w : World} {b : Nat} {cs : Array Value} {t : TypeId} (h : Blk w b cs t) : w.shape? b = some (t, cs.size) := by
  obtain ⟨fr, h, _⟩ := h
  simp [World.shape?, h]
theorem kept_cells (vs : List Value) (o : Nat) (w : World) (g : Nat) : Kept (fun k => some g = some k) w (w.setCells g o vs) :=
  (Kept.refl _ w).grown (grown_setCells vs o w g) (fun _ _ e => e)
end Go.Proofs.YtnggbfdnlmkklaaDoor.Own
