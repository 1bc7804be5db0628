/-
  A key's text, parsed again, plainly.
-/
import Derived.Test.YtnggbfdnlmkklaaDoorParse
set_option linter.unusedVariables false
namespace Go.Proofs.YtnggbfdnlmkklaaDoor.Line
open Go

theorem pieces_no (c : UInt8) : ∀ l : List UInt8, ∀ p ∈ pieces c l, ∀ b ∈ p, b ≠ c
  | [] => by simp [pieces]
  | b :: r => by
    have ih := pieces_no c r
    unfold pieces
    split
    · intro p hp
      rcases List.mem_cons.1 hp with rfl | hp
      · simp
      · exact ih p hp
    · rename_i hne
      split
      · intro p hp
        rw [List.mem_singleton] at hp
        subst hp
        simpa using hne
      · rename_i q qs hq
        intro p hp
        rcases List.mem_cons.1 hp with rfl | hp
        · intro y hy
          rcases List.mem_cons.1 hy with rfl | hy
          · exact hne
          · exact ih q (by rw [hq]; simp) y hy
        · exact ih p (by rw [hq]; simp [hp])
/-- A text that is a word. -/
def isWord (t : List UInt8) : Prop := wordsL t = [t]
instance (t : List UInt8) : Decidable (isWord t) := inferInstanceAs (Decidable (_ = _))
theorem isWord_parts {t : List UInt8} (h : isWord t) : t ≠ [] ∧ ∀ b ∈ t, b ≠ 32 := by
  have hm : t ∈ wordsL t := by rw [h]; simp
  rw [wordsL, List.mem_filter] at hm
  exact ⟨by intro e; rw [e] at hm; simp at hm, pieces_no 32 t t hm.1⟩
theorem isWord_of {t : List UInt8} (h0 : t ≠ []) (h : ∀ b ∈ t, b ≠ 32) : isWord t := by
  rw [isWord, words_miss t h, if_neg h0]
theorem words_join : ∀ xs : List (List UInt8), (∀ t ∈ xs, isWord t) → wordsL (Lib.join xs [32]) = xs
  | [], _ => by rw [Lib.join_nil]; rfl
  | [x], h => by rw [Lib.join_one]; exact h x (by simp)
  | x :: y :: r, h => by
    have ih := words_join (y :: r) (fun t ht => h t (List.mem_cons_of_mem _ ht))
    obtain ⟨h0, h1⟩ := isWord_parts (h x (by simp))
    have e : Lib.join (x :: y :: r) [32] = x ++ 32 :: Lib.join (y :: r) [32] := by
      rw [Lib.join_cons, Lib.join_cons]
      simp [Lib.joinTail]
    rw [e, words_hit x _ h1, if_neg h0, ih]
    rfl

theorem itoa_word (v : Int) (h : 0 ≤ v) : isWord (Lib.itoa v) := by
  obtain ⟨u, rfl⟩ : ∃ u : Nat, v = (u : Int) := ⟨v.toNat, by omega⟩
  rw [Lib.itoa_nonneg]
  refine isWord_of (dec_ne u) fun b hb e => ?_
  have := dec_digits u b hb
  rw [e] at this
  exact absurd this.1 (by decide)
theorem small_itoa (v m : Int) (h0 : 0 ≤ v) (h1 : v ≤ m) (hm : m ≤ 1000) : smallL (Lib.itoa v) m = some v := by
  have : numberL (Lib.itoa v) = some v := numberL_some.2 ⟨rfl, by omega, by omega⟩
  rw [smallL, this]
  exact if_pos ⟨h0, h1⟩
theorem kind_name (k : Int) (h0 : 1 ≤ k) (h1 : k ≤ 6) : kindOf (nameOf k) = k ∧ isWord (nameOf k) ∧ (nameOf k).length ≤ 12 := by
  have : k = 1 ∨ k = 2 ∨ k = 3 ∨ k = 4 ∨ k = 5 ∨ k = 6 := by omega
  rcases this with rfl | rfl | rfl | rfl | rfl | rfl <;> refine ⟨?_, ?_, ?_⟩ <;> decide +kernel
theorem keyT_of {k i j : Int} (h : isKey k i j = true) : keyT k i j = Lib.join [nameOf k, Lib.itoa i, Lib.itoa j] [32] := if_pos h
theorem keyT_words {k i j : Int} (h : isKey k i j = true) : wordsL (keyT k i j) = [nameOf k, Lib.itoa i, Lib.itoa j] := by
  have h' := h
  unfold isKey at h'
  simp only [decide_eq_true_eq] at h'
  rw [keyT_of h]
  refine words_join _ fun t ht => ?_
  simp only [List.mem_cons, List.not_mem_nil, or_false] at ht
  rcases ht with rfl | rfl | rfl
  · exact (kind_name k (by omega) (by omega)).2.1
  · exact itoa_word i (by omega)
  · exact itoa_word j (by omega)
theorem parse_text {k i j : Int} (h : isKey k i j = true) : parseL (keyT k i j) = some (k, i, j) := by
  have h' := h
  unfold isKey at h'
  simp only [decide_eq_true_eq] at h'
  rw [parse_three (keyT_words h), small_itoa i 16 (by omega) (by omega) (by omega), small_itoa j 16 (by omega) (by omega) (by omega)]
  simp only [(kind_name k (by omega) (by omega)).1, if_pos]
theorem parse_back {l : List UInt8} {k i j : Int} (h : parseL l = some (k, i, j)) : keyT k i j = l := by
  unfold parseL at h
  split at h
  · split at h
    · split at h
      · rename_i he
        cases h
        exact he
      · cases h
    · cases h
  · cases h
theorem keyT_len {k i j : Int} (h : isKey k i j = true) : (keyT k i j).length ≤ 60 := by
  have h' := h
  unfold isKey at h'
  simp only [decide_eq_true_eq] at h'
  have a := (kind_name k (by omega) (by omega)).2.2
  have b := itoa_len (z := i) ⟨by omega, by omega⟩
  have c := itoa_len (z := j) ⟨by omega, by omega⟩
  rw [keyT_of h]
  simp [Lib.join]
  omega
end Go.Proofs.YtnggbfdnlmkklaaDoor.Line
