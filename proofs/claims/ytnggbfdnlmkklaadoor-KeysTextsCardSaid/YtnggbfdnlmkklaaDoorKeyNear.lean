/-
  The nearest of a range; two texts, one behind the other; a text cut short.
-/
import Derived.Test.YtnggbfdnlmkklaaDoorKeyLive
set_option linter.unusedVariables false
namespace Go.Proofs.YtnggbfdnlmkklaaDoor.Line
open Go.RowKit Go.Sort Go.Proofs.YtnggbfdnlmkklaaDoor.Own Go.Proofs.YtnggbfdnlmkklaaDoor.Conv Go.Proofs.YtnggbfdnlmkklaaDoor.Calm

theorem near_in (n lo hi : Int) (h0 : lo ≤ n) (h1 : n ≤ hi) (w : World) :
    Calls Tryd.prog 12 #[.int .i64 n, .int .i64 lo, .int .i64 hi] w fun e w' => e = .returned (.int .i64 n) ∧ Kept No w w' := by
  go_enter Tryd.func12, Tryd.ntmps12
  go_wp2_with fail
  go_ret
  exact ⟨rfl, Kept.refl _ _⟩
theorem app_mk (a b : List UInt8) : (⟨a.toArray⟩ : ByteArray) ++ (⟨b.toArray⟩ : ByteArray) = ⟨(a ++ b).toArray⟩ := by
  rw [ByteArray.ext_iff]
  simp
def nameN : Array Value := #[.string ⟨#[117, 97, 102]⟩, .string ⟨#[100, 111, 117, 98, 108, 101, 102, 114, 101, 101]⟩, .string ⟨#[100, 111, 117, 98, 108, 101, 114, 101, 116, 105, 114, 101]⟩, .string ⟨#[97, 98, 97]⟩, .string ⟨#[119, 105, 108, 100]⟩, .string ⟨#[108, 101, 97, 107]⟩]
theorem nameN_at (m : Nat) (h : m < 6) : nameN[m]? = some (.string ⟨(nameOf ((m : Int) + 1)).toArray⟩) := by
  have : m = 0 ∨ m = 1 ∨ m = 2 ∨ m = 3 ∨ m = 4 ∨ m = 5 := by omega
  rcases this with rfl | rfl | rfl | rfl | rfl | rfl <;> rfl
theorem cut_eq (s : ByteArray) (m : Nat) : s.extract 0 m = ⟨(s.data.toList.take m).toArray⟩ := by rw [Lib.extract_eq]; simp
theorem cut_no (s : ByteArray) (m : Nat) (h : s.size ≤ m) : s = ⟨(s.data.toList.take m).toArray⟩ := mk_of (by
  have hl : s.data.toList.length = s.size := by simp
  rw [List.take_of_length_le (by omega)])
end Go.Proofs.YtnggbfdnlmkklaaDoor.Line
