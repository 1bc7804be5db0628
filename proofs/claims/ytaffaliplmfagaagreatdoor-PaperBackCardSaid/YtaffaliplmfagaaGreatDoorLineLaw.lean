/-
  Texts and numbers, plainly: the pieces of a text, its lines, its words; which text is a number's decimal.
-/
import Derived.Lib.ItoaMem
import Derived.Lib.ItoaLen
import Derived.Lib.IndexLaws
import Derived.Lib.IndexBytes
import Derived.Lib.ParseIntBTie
import Derived.Lib.ParseIntBCases
import Derived.Lib.Join
set_option linter.unusedVariables false
namespace Go.Proofs.YtaffaliplmfagaaGreatDoor.Line
open Go

/-- A text cut at each c. -/
def pieces (c : UInt8) : List UInt8 → List (List UInt8)
  | [] => [[]]
  | b :: r => if b = c then [] :: pieces c r else match pieces c r with
    | [] => [[b]]
    | p :: ps => (b :: p) :: ps
/-- The lines of a text. -/
def linesL : List UInt8 → List (List UInt8)
  | [] => []
  | b :: r => if b = 10 then [] :: linesL r else match linesL r with
    | [] => [[b]]
    | p :: ps => (b :: p) :: ps
/-- The words of a line. -/
def wordsL (l : List UInt8) : List (List UInt8) := (pieces 32 l).filter (fun p => !p.isEmpty)

theorem pieces_miss (c : UInt8) : ∀ l : List UInt8, (∀ b ∈ l, b ≠ c) → pieces c l = [l]
  | [], _ => rfl
  | b :: r, h => by
    have h1 := pieces_miss c r (fun x hx => h x (by simp [hx]))
    rw [pieces, if_neg (h b (by simp)), h1]
theorem pieces_hit (c : UInt8) : ∀ (p r : List UInt8), (∀ b ∈ p, b ≠ c) → pieces c (p ++ c :: r) = p :: pieces c r
  | [], r, _ => by simp [pieces]
  | b :: p, r, h => by
    have h1 := pieces_hit c p r (fun x hx => h x (by simp [hx]))
    rw [List.cons_append, pieces, if_neg (h b (by simp)), h1]
theorem pieces_len (c : UInt8) : ∀ l : List UInt8, (pieces c l).length ≤ l.length + 1
  | [] => by simp [pieces]
  | b :: r => by
    have h := pieces_len c r
    unfold pieces
    split
    · simp; omega
    · split
      · simp
      · rename_i h2
        rw [h2] at h
        simp at h ⊢
        omega
theorem lines_miss : ∀ l : List UInt8, l ≠ [] → (∀ b ∈ l, b ≠ 10) → linesL l = [l]
  | [], h, _ => (h rfl).elim
  | [b], _, h => by rw [linesL, if_neg (h b (by simp))]; rfl
  | b :: b' :: r, _, h => by
    have h1 := lines_miss (b' :: r) (by simp) (fun x hx => h x (List.mem_cons_of_mem _ hx))
    rw [linesL, if_neg (h b (by simp)), h1]
theorem lines_hit : ∀ (p r : List UInt8), (∀ b ∈ p, b ≠ 10) → linesL (p ++ 10 :: r) = p :: linesL r
  | [], r, _ => by simp [linesL]
  | b :: p, r, h => by
    have h1 := lines_hit p r (fun x hx => h x (by simp [hx]))
    rw [List.cons_append, linesL, if_neg (h b (by simp)), h1]
theorem words_hit (p r : List UInt8) (h : ∀ b ∈ p, b ≠ 32) : wordsL (p ++ 32 :: r) = (if p = [] then [] else [p]) ++ wordsL r := by
  rw [wordsL, pieces_hit 32 p r h, List.filter_cons]
  cases p <;> simp [wordsL]
theorem words_miss (p : List UInt8) (h : ∀ b ∈ p, b ≠ 32) : wordsL p = if p = [] then [] else [p] := by
  rw [wordsL, pieces_miss 32 p h]
  cases p <;> simp

/-- How a text stands to an octet in it: none, or the first. -/
theorem at_none {l : List UInt8} {c : UInt8} (h : Lib.indexByte l c = -1) : ∀ b ∈ l, b ≠ c := by
  intro b hb e
  obtain ⟨k, hk⟩ := List.getElem?_of_mem hb
  exact Lib.indexByte_none h k (by rw [hk, e])
theorem at_some {l : List UInt8} {c : UInt8} {i : Nat} (h : Lib.indexByte l c = i) : l = l.take i ++ c :: l.drop (i + 1) ∧ (∀ b ∈ l.take i, b ≠ c) ∧ i < l.length := by
  obtain ⟨h1, h2⟩ := Lib.indexByte_some h
  obtain ⟨hlt, h3⟩ := List.getElem?_eq_some_iff.1 h1
  refine ⟨?_, ?_, hlt⟩
  · rw [← h3, ← List.drop_eq_getElem_cons hlt, List.take_append_drop]
  · intro b hb e
    obtain ⟨k, hk⟩ := List.getElem?_of_mem hb
    rw [List.getElem?_take] at hk
    split at hk
    · rename_i hk2
      exact h2 k hk2 (by rw [hk, e])
    · cases hk
theorem index_cases (l : List UInt8) (c : UInt8) : Lib.indexByte l c = -1 ∨ ∃ i : Nat, Lib.indexByte l c = i := by
  have := Lib.indexByte_ge l c
  by_cases h : Lib.indexByte l c = -1
  · exact .inl h
  · exact .inr ⟨(Lib.indexByte l c).toNat, by omega⟩

/-! ### numbers -/
theorem pu_snoc : ∀ (l : List UInt8) (acc a : Nat) (c : UInt8), Lib.parseUint10 acc l = .ok a → Lib.parseUint10 acc (l ++ [c]) = Lib.parseUint10 a [c]
  | [], acc, a, c, h => by
    simp only [Lib.parseUint10, Lib.NumEnd.ok.injEq] at h
    subst h; rfl
  | b :: l, acc, a, c, h => by
    rw [List.cons_append]
    unfold Lib.parseUint10 at h ⊢
    split at h
    · rename_i h1
      rw [if_pos h1]
      split at h
      · cases h
      · rename_i h2
        rw [if_neg h2]
        split at h
        · cases h
        · rename_i h3
          rw [if_neg h3, pu_snoc l _ a c h]
          rfl
    · cases h
theorem dig_toNat (d : Nat) (h : d < 10) : (UInt8.ofNat (48 + d)).toNat = 48 + d := by
  have : ∀ d : Nat, d < 10 → (UInt8.ofNat (48 + d)).toNat = 48 + d := by decide
  exact this d h
theorem pu_dec : ∀ (u : Nat), u < 18446744073709551616 → Lib.parseUint10 0 (Lib.decDigits u) = .ok u := by
  intro u
  induction u using Nat.strongRecOn with
  | ind u ih =>
    intro hu
    rw [Lib.decDigits]
    split
    · rename_i h
      have hd := dig_toNat u h
      generalize UInt8.ofNat (48 + u) = c at hd ⊢
      simp only [Lib.parseUint10]
      rw [if_pos (by omega), if_neg (by omega), if_neg (by omega)]
      congr 1
      omega
    · rename_i h
      rw [pu_snoc _ 0 (u / 10) _ (ih (u / 10) (by omega) (by omega))]
      have hd := dig_toNat (u % 10) (by omega)
      generalize UInt8.ofNat (48 + u % 10) = c at hd ⊢
      simp only [Lib.parseUint10]
      rw [if_pos (by omega), if_neg (by omega), if_neg (by omega)]
      congr 1
      omega
theorem dec_ne (u : Nat) : Lib.decDigits u ≠ [] := by
  rw [Lib.decDigits]
  split <;> simp
theorem dec_digits : ∀ (u : Nat), ∀ c ∈ Lib.decDigits u, 48 ≤ c.toNat ∧ c.toNat ≤ 57 := by
  intro u
  induction u using Nat.strongRecOn with
  | ind u ih =>
    intro c hc
    rw [Lib.decDigits] at hc
    split at hc
    · rename_i h
      have hd := dig_toNat u h
      rw [List.mem_singleton] at hc
      rw [hc]
      omega
    · rename_i h
      rcases List.mem_append.1 hc with hc | hc
      · exact ih (u / 10) (by omega) c hc
      · have hd := dig_toNat (u % 10) (by omega)
        rw [List.mem_singleton] at hc
        rw [hc]
        omega
theorem pu_B (l : List UInt8) (h : l ≠ []) : Lib.parseUintB 64 l = Lib.parseUint10 0 l := by
  rw [Lib.parseUintB, if_neg h]
  exact Lib.parseUintM_64 l 0
theorem pi_itoa (v : Int) (h0 : -9223372036854775808 ≤ v) (h1 : v ≤ 9223372036854775807) : Lib.parseIntB 64 (Lib.itoa v) = .ok v := by
  by_cases hn : v < 0
  · obtain ⟨u, hu⟩ : ∃ u : Nat, v = -(u : Int) := ⟨v.natAbs, by omega⟩
    subst hu
    rw [Lib.itoa_neg u (by omega), Lib.parseIntB_minus, pu_B _ (dec_ne u), pu_dec u (by omega)]
    simp [Lib.signedC]
    omega
  · obtain ⟨u, hu⟩ : ∃ u : Nat, v = (u : Int) := ⟨v.toNat, by omega⟩
    subst hu
    rw [Lib.itoa_nonneg]
    obtain ⟨c, r, hcr⟩ : ∃ c r, Lib.decDigits u = c :: r := by
      cases hd : Lib.decDigits u with
      | nil => exact (dec_ne u hd).elim
      | cons c r => exact ⟨c, r, rfl⟩
    have hc := dec_digits u c (by rw [hcr]; simp)
    rw [hcr, Lib.parseIntB_plain 64 c r (by omega) (by omega), ← hcr, pu_B _ (dec_ne u), pu_dec u (by omega)]
    simp [Lib.signlessC]
    omega
/-- The number whose decimal a text is. -/
def numberL (l : List UInt8) : Option Int := match Lib.parseIntB 64 l with
  | .ok v => if Lib.itoa v = l then some v else none
  | _ => none
theorem numberL_some {l : List UInt8} {v : Int} : numberL l = some v ↔ Lib.itoa v = l ∧ -9223372036854775808 ≤ v ∧ v ≤ 9223372036854775807 := by
  constructor
  · intro h
    unfold numberL at h
    split at h
    · rename_i u hu
      split at h
      · rename_i he
        cases h
        have := Lib.parseIntB_bounds hu
        exact ⟨he, by omega, by omega⟩
      · cases h
    · cases h
  · rintro ⟨rfl, h0, h1⟩
    unfold numberL
    rw [pi_itoa v h0 h1]
    simp
/-- Likewise, from 0 to a greatest. -/
def smallL (l : List UInt8) (m : Int) : Option Int := match numberL l with
  | some v => if 0 ≤ v ∧ v ≤ m then some v else none
  | none => none
end Go.Proofs.YtaffaliplmfagaaGreatDoor.Line
