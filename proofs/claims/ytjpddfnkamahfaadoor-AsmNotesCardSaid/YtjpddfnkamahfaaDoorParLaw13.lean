/-
  What a text's lines leave in the reader, in plain terms.
-/
import Derived.Test.YtjpddfnkamahfaaDoorPut13
import Derived.Test.YtjpddfnkamahfaaDoorText12
set_option linter.unusedVariables false
set_option linter.unusedSimpArgs false
namespace Go.Proofs.YtjpddfnkamahfaaDoor.Line
open Go.RowKit Go.Sort Go.Proofs.YtjpddfnkamahfaaDoor.Own Go.Proofs.YtjpddfnkamahfaaDoor.Conv Go.Proofs.YtjpddfnkamahfaaDoor.Open

/-- Lines, one behind the other, up to the first that is wrong. -/
def runS : PS → List (List UInt8) → PS × Int
  | st, [] => (st, 0)
  | st, l :: r => if (lineS st l).2 = 0 then runS (lineS st l).1 r else lineS st l
def ps0 : PS := ⟨0, 0, 0, false, []⟩
theorem runS_app : ∀ (a b : List (List UInt8)) (st : PS), (runS st a).2 = 0 → runS st (a ++ b) = runS (runS st a).1 b
  | [], b, st, _ => rfl
  | l :: a, b, st, h => by
    rw [runS] at h
    rw [List.cons_append, runS, runS]
    split at h
    · rename_i h0
      rw [if_pos h0, if_pos h0]
      exact runS_app a b _ h
    · rename_i h0
      exact absurd h h0
theorem runS_pre : ∀ (a b : List (List UInt8)) (st : PS), (runS st (a ++ b)).2 = 0 → (runS st a).2 = 0
  | [], b, st, _ => rfl
  | l :: a, b, st, h => by
    rw [List.cons_append, runS] at h
    rw [runS]
    split at h
    · rename_i h0
      rw [if_pos h0]
      exact runS_pre a b _ h
    · rename_i h0
      exact absurd h h0
theorem runS_one (st : PS) (l : List UInt8) : runS st [l] = lineS st l := by
  rw [runS]
  split
  · rename_i h
    rw [runS, ← h]
  · rfl
theorem runS_step {st : PS} {all : List (List UInt8)} {k : Nat} {x : List UInt8} (hx : all[k]? = some x) (h : (runS st all).2 = 0) :
    (lineS (runS st (all.take k)).1 x).2 = 0 ∧ runS st (all.take (k + 1)) = lineS (runS st (all.take k)).1 x := by
  have h1 : all.take (k + 1) = all.take k ++ [x] := by rw [List.take_add_one, hx]; rfl
  have h2 : (runS st (all.take k)).2 = 0 := runS_pre _ (all.drop k) st (by rw [List.take_append_drop]; exact h)
  have h3 : (runS st (all.take (k + 1))).2 = 0 := runS_pre _ (all.drop (k + 1)) st (by rw [List.take_append_drop]; exact h)
  rw [h1, runS_app _ _ _ h2, runS_one] at h3
  exact ⟨h3, by rw [h1, runS_app _ _ _ h2, runS_one]⟩
theorem lineS_rows (st : PS) (l : List UInt8) (h : st.rows.length ≤ 4) : (lineS st l).1.rows.length ≤ 4 := by
  unfold lineS
  simp only []
  repeat' split
  all_goals first | exact h | (simp only [List.length_append, List.length_singleton]; omega) | (rw [putLast_len]; exact h)
theorem runS_rows : ∀ (a : List (List UInt8)) (st : PS), st.rows.length ≤ 4 → (runS st a).1.rows.length ≤ 4
  | [], st, h => h
  | l :: a, st, h => by
    rw [runS]
    split
    · exact runS_rows a _ (lineS_rows st l h)
    · exact lineS_rows st l h
theorem lineS_words {l l' : List UInt8} (h : wordsL l = wordsL l') (st : PS) : lineS st l = lineS st l' := by
  have h1 : opL l = opL l' := by unfold opL; rw [h]
  have h2 : instrL l = instrL l' := by unfold instrL; rw [h1, h]
  unfold lineS
  rw [h, h2]
end Go.Proofs.YtjpddfnkamahfaaDoor.Line
