/-
  Texts that a call hands out (XCut without Cut and Split: for seats that lack them; filled AS Cut).
-/
import Derived.Test.YtaffaliplmfagaaGreatDoorLine
import Derived.BigQuiet
import Derived.Deep.QuietTactic
import Derived.Lib.Strings
set_option linter.unusedVariables false
namespace Go.Proofs.YtaffaliplmfagaaGreatDoor.Line
open Go.RowKit Go.Sort Go.Proofs.YtaffaliplmfagaaGreatDoor.Own Go.Proofs.YtaffaliplmfagaaGreatDoor.Conv

theorem ext_take (l : List UInt8) (i : Nat) : (⟨l.toArray⟩ : ByteArray).extract 0 i = ⟨(l.take i).toArray⟩ := by
  rw [Lib.extract_eq]; simp
theorem ext_drop (l : List UInt8) (i n : Nat) (h : l.length ≤ n) : (⟨l.toArray⟩ : ByteArray).extract i n = ⟨(l.drop i).toArray⟩ := by
  rw [Lib.extract_eq]
  rw [List.take_of_length_le (by simp; omega)]
theorem mk_size (l : List UInt8) : (⟨l.toArray⟩ : ByteArray).size = l.length := by simp [ByteArray.size]

def strLen : Value → Nat
  | .string b => b.size
  | _ => 0
theorem strLen_mk (l : List UInt8) : strLen (.string ⟨l.toArray⟩) = l.length := mk_size l

def TextsPost (w : World) (xs : List (List UInt8)) (e : Ending) (w' : World) : Prop :=
  Kept No w w' ∧ ∃ v, e = .returned v ∧ Seg w' w.heap.size 9 1 v xs.length (sv xs)

theorem mk_toList (l : List UInt8) : (⟨l.toArray⟩ : ByteArray).toList = l := by rw [ByteArray.toList_eq]
theorem mk_of {s : ByteArray} {l : List UInt8} (h : s.data.toList = l) : s = ⟨l.toArray⟩ := by subst h; rfl

end Go.Proofs.YtaffaliplmfagaaGreatDoor.Line
