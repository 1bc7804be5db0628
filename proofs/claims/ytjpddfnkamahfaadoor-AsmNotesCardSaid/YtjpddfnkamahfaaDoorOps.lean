/-
  The instructions' names and shapes.
-/
import Derived.Test.YtjpddfnkamahfaaDoorRefWords
import Derived.Test.YtjpddfnkamahfaaDoorRefDec
set_option linter.unusedVariables false
namespace Go.Proofs.YtjpddfnkamahfaaDoor.Line
open Go.RowKit Go.Sort Go.Proofs.YtjpddfnkamahfaaDoor.Own Go.Proofs.YtjpddfnkamahfaaDoor.Conv

def allT : List UInt8 := [104, 97, 108, 116, 32, 45, 45, 45, 45, 32, 115, 101, 116, 32, 114, 45, 45, 110, 32, 99, 111, 112, 121, 32, 114, 114, 45, 45, 32, 97, 100, 100, 32, 114, 114, 114, 45, 32, 115, 117, 98, 32, 114, 114, 114, 45, 32, 109, 117, 108, 32, 114, 114, 114, 45, 32, 100, 105, 118, 32, 114, 114, 114, 45, 32, 106, 117, 109, 112, 32, 45, 45, 45, 116, 32, 122, 101, 114, 111, 32, 114, 45, 45, 116, 32, 115, 97, 109, 101, 32, 114, 114, 45, 116, 32, 108, 111, 111, 107, 32, 114, 103, 45, 45, 32, 112, 117, 116, 32, 103, 114, 45, 45, 32, 115, 119, 97, 112, 32, 114, 114, 114, 103, 32, 108, 111, 97, 100, 32, 114, 114, 45, 102, 32, 115, 116, 111, 114, 101, 32, 114, 114, 45, 102, 32, 99, 97, 115, 32, 114, 114, 114, 102, 32, 102, 101, 110, 99, 101, 32, 45, 45, 45, 45, 32, 110, 101, 119, 32, 114, 45, 45, 45, 32, 102, 114, 101, 101, 32, 114, 45, 45, 45, 32, 114, 101, 116, 105, 114, 101, 32, 114, 45, 45, 45, 32, 103, 117, 97, 114, 100, 32, 114, 45, 45, 115, 32, 99, 108, 101, 97, 114, 32, 45, 45, 45, 115, 32, 101, 110, 116, 101, 114, 32, 45, 45, 45, 45, 32, 108, 101, 97, 118, 101, 32, 45, 45, 45, 45, 32, 113, 117, 105, 101, 116, 32, 45, 45, 45, 45]
def kindL : List (List UInt8 × List UInt8) := [([], []),
  ([104, 97, 108, 116], [45, 45, 45, 45]),
  ([115, 101, 116], [114, 45, 45, 110]),
  ([99, 111, 112, 121], [114, 114, 45, 45]),
  ([97, 100, 100], [114, 114, 114, 45]),
  ([115, 117, 98], [114, 114, 114, 45]),
  ([109, 117, 108], [114, 114, 114, 45]),
  ([100, 105, 118], [114, 114, 114, 45]),
  ([106, 117, 109, 112], [45, 45, 45, 116]),
  ([122, 101, 114, 111], [114, 45, 45, 116]),
  ([115, 97, 109, 101], [114, 114, 45, 116]),
  ([108, 111, 111, 107], [114, 103, 45, 45]),
  ([112, 117, 116], [103, 114, 45, 45]),
  ([115, 119, 97, 112], [114, 114, 114, 103]),
  ([108, 111, 97, 100], [114, 114, 45, 102]),
  ([115, 116, 111, 114, 101], [114, 114, 45, 102]),
  ([99, 97, 115], [114, 114, 114, 102]),
  ([102, 101, 110, 99, 101], [45, 45, 45, 45]),
  ([110, 101, 119], [114, 45, 45, 45]),
  ([102, 114, 101, 101], [114, 45, 45, 45]),
  ([114, 101, 116, 105, 114, 101], [114, 45, 45, 45]),
  ([103, 117, 97, 114, 100], [114, 45, 45, 115]),
  ([99, 108, 101, 97, 114], [45, 45, 45, 115]),
  ([101, 110, 116, 101, 114], [45, 45, 45, 45]),
  ([108, 101, 97, 118, 101], [45, 45, 45, 45]),
  ([113, 117, 105, 101, 116], [45, 45, 45, 45])]
def nameK (n : Nat) : List UInt8 := ((kindL[n]?).getD ([], [])).1
def shapeK (n : Nat) : List UInt8 := ((kindL[n]?).getD ([], [])).2

def kindCells : List Value := kindL.flatMap fun p => [.string ⟨p.1.toArray⟩, .string ⟨p.2.toArray⟩]
theorem words_all : wordsL allT = (kindL.drop 1).flatMap fun p => [p.1, p.2] := by decide +kernel
theorem kind_len : kindL.length = 26 := rfl
theorem nameK_out {n : Nat} (h : 26 ≤ n) : nameK n = [] := by rw [nameK, List.getElem?_eq_none (by rw [kind_len]; exact h)]; rfl
theorem shapeK_out {n : Nat} (h : 26 ≤ n) : shapeK n = [] := by rw [shapeK, List.getElem?_eq_none (by rw [kind_len]; exact h)]; rfl
/-- The name and the shape of an instruction that is told by any number. -/
def nameZ (z : Int) : List UInt8 := if 0 ≤ z ∧ z < 26 then nameK z.toNat else []
def shapeZ (z : Int) : List UInt8 := if 0 ≤ z ∧ z < 26 then shapeK z.toNat else []
theorem nameZ_in (k : Nat) (h : k < 26) : nameZ k = nameK k := by rw [nameZ, if_pos (by omega)]; rfl
theorem shapeZ_in (k : Nat) (h : k < 26) : shapeZ k = shapeK k := by rw [shapeZ, if_pos (by omega)]; rfl
theorem kcell : ∀ k, k < 26 → kindCells[2 * k]? = some (.string ⟨(nameK k).toArray⟩) ∧ kindCells[2 * k + 1]? = some (.string ⟨(shapeK k).toArray⟩) := by
  intro k hk
  match k, hk with
  | 0, _ | 1, _ | 2, _ | 3, _ | 4, _ | 5, _ | 6, _ | 7, _ | 8, _ | 9, _ | 10, _ | 11, _ | 12, _ | 13, _ | 14, _ | 15, _ | 16, _ | 17, _ | 18, _ | 19, _ | 20, _ | 21, _ | 22, _ | 23, _ | 24, _ | 25, _ => exact ⟨rfl, rfl⟩
  | n + 26, h => omega
theorem wcell : ∀ k, 1 ≤ k → k < 26 → (sv (wordsL allT))[2 * k - 2]? = some (.string ⟨(nameK k).toArray⟩) ∧ (sv (wordsL allT))[2 * k - 1]? = some (.string ⟨(shapeK k).toArray⟩) := by
  intro k h1 hk
  rw [words_all]
  match k, h1, hk with
  | 1, _, _ | 2, _, _ | 3, _, _ | 4, _, _ | 5, _, _ | 6, _, _ | 7, _, _ | 8, _, _ | 9, _, _ | 10, _, _ | 11, _, _ | 12, _, _ | 13, _, _ | 14, _, _ | 15, _, _ | 16, _, _ | 17, _, _ | 18, _, _ | 19, _, _ | 20, _, _ | 21, _, _ | 22, _, _ | 23, _, _ | 24, _, _ | 25, _, _ => exact ⟨rfl, rfl⟩
  | n + 26, _, h => omega
theorem name_some : ∀ k, 1 ≤ k → k < 26 → nameK k ≠ [] ∧ (shapeK k).length = 4 := by
  intro k h1 hk
  match k, h1, hk with
  | 1, _, _ | 2, _, _ | 3, _, _ | 4, _, _ | 5, _, _ | 6, _, _ | 7, _, _ | 8, _, _ | 9, _, _ | 10, _, _ | 11, _, _ | 12, _, _ | 13, _, _ | 14, _, _ | 15, _, _ | 16, _, _ | 17, _, _ | 18, _, _ | 19, _, _ | 20, _, _ | 21, _, _ | 22, _, _ | 23, _, _ | 24, _, _ | 25, _, _ => exact ⟨by decide, rfl⟩
  | n + 26, _, h => omega

end Go.Proofs.YtjpddfnkamahfaaDoor.Line
