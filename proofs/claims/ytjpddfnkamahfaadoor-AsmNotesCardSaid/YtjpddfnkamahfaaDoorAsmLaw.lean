/-
  What a line's instruction is, in plain terms.
-/
import Derived.Test.YtjpddfnkamahfaaDoorOp13
set_option linter.unusedVariables false
set_option linter.unusedSimpArgs false
namespace Go.Proofs.YtjpddfnkamahfaaDoor.Line
open Go.RowKit Go.Sort Go.Proofs.YtjpddfnkamahfaaDoor.Own Go.Proofs.YtjpddfnkamahfaaDoor.Conv

/-- How many of the first letters stand for a number. -/
def posZ (z : Int) : Nat → Nat
  | 0 => 0
  | i + 1 => posZ z i + (if (shapeZ z)[i]? = some 45 then 0 else 1)
theorem posZ_dash {z : Int} {i : Nat} (h : (shapeZ z)[i]? = some 45) : posZ z (i + 1) = posZ z i := by rw [posZ, if_pos h]; rfl
theorem posZ_num {z : Int} {i : Nat} (h : (shapeZ z)[i]? ≠ some 45) : posZ z (i + 1) = posZ z i + 1 := by rw [posZ, if_neg h]
theorem posZ_le (z : Int) : ∀ i, posZ z i ≤ i
  | 0 => Nat.le_refl _
  | i + 1 => by have := posZ_le z i; rw [posZ]; split <;> omega
theorem posZ_mono (z : Int) (i : Nat) : ∀ k, posZ z i ≤ posZ z (i + k)
  | 0 => Nat.le_refl _
  | k + 1 => by have := posZ_mono z i k; rw [← Nat.add_assoc, posZ]; split <;> omega
theorem posZ_mono' {z : Int} {i k : Nat} (h : i ≤ k) : posZ z i ≤ posZ z k := by
  have := posZ_mono z i (k - i)
  rwa [show i + (k - i) = k by omega] at this
/-- The operands' words' numbers: none where one is no number, or lacks. -/
def wordN (ws : List (List UInt8)) (p : Nat) : Option Int := ws[p]?.bind numberL
def valZ (z : Int) (ws : List (List UInt8)) (i : Nat) : Int := if (shapeZ z)[i]? = some 45 then 0 else (wordN ws (posZ z i)).getD 0
def okZ (z : Int) (ws : List (List UInt8)) : Nat → Bool
  | 0 => true
  | i + 1 => okZ z ws i && ((shapeZ z)[i]? == some 45 || (wordN ws (posZ z i)).isSome)
theorem okZ_le {z : Int} {ws : List (List UInt8)} {i k : Nat} (h : i ≤ k) (hk : okZ z ws k = true) : okZ z ws i = true := by
  induction k with
  | zero => rw [show i = 0 by omega]; rfl
  | succ k ih =>
    rcases Nat.lt_or_ge k i with h1 | h1
    · rw [show i = k + 1 by omega]; exact hk
    · rw [okZ, Bool.and_eq_true] at hk; exact ih h1 hk.1
theorem okZ_fail {z : Int} {ws : List (List UInt8)} {i k : Nat} (h : i < k) (h1 : (shapeZ z)[i]? ≠ some 45) (h2 : wordN ws (posZ z i) = none) : okZ z ws k = false := by
  cases hk : okZ z ws k with
  | false => rfl
  | true =>
    have := okZ_le (show i + 1 ≤ k by omega) hk
    rw [okZ, Bool.and_eq_true, h2] at this
    simp [h1] at this
theorem okZ_next {z : Int} {ws : List (List UInt8)} {i : Nat} (h : okZ z ws i = true) (h1 : (shapeZ z)[i]? = some 45 ∨ (wordN ws (posZ z i)).isSome = true) : okZ z ws (i + 1) = true := by
  rw [okZ, h]
  rcases h1 with h1 | h1 <;> simp [h1]
/-- An octet. -/
def octB (n : Int) : Bool := decide (0 ≤ n) && decide (n ≤ 255)
/-- A line's instruction: five numbers, and what is wrong. -/
structure InsR where
  z : Int
  a : Int
  b : Int
  c : Int
  n : Int
  e : Int
def badI (e : Int) : InsR := ⟨0, 0, 0, 0, 0, e⟩
def opL (l : List UInt8) : Int := match wordsL l with | [] => 0 | w :: _ => opZ w
def instrL (l : List UInt8) : InsR :=
  let z := opL l
  let ws := (wordsL l).tail
  if z = 0 then badI 2
  else if ws.length ≠ posZ z 4 then badI 1
  else if okZ z ws 4 = false then badI 1
  else if (octB (valZ z ws 0) && octB (valZ z ws 1) && octB (valZ z ws 2)) = false then badI 3
  else ⟨z, valZ z ws 0, valZ z ws 1, valZ z ws 2, valZ z ws 3, 0⟩
theorem instr_none {l : List UInt8} (h : opL l = 0) : instrL l = badI 2 := by simp [instrL, h]
theorem instr_many {l : List UInt8} (h : opL l ≠ 0) (h1 : (wordsL l).tail.length ≠ posZ (opL l) 4) : instrL l = badI 1 := by
  unfold instrL
  simp only [h, if_false]
  rw [if_pos h1]
theorem instr_word {l : List UInt8} (h : opL l ≠ 0) (h1 : okZ (opL l) (wordsL l).tail 4 = false) : instrL l = badI 1 := by
  unfold instrL
  simp only [h, if_false]
  split
  · rfl
  · simp only [h1, if_true]
theorem instr_wide {l : List UInt8} (h : opL l ≠ 0) (h0 : (wordsL l).tail.length = posZ (opL l) 4) (h1 : okZ (opL l) (wordsL l).tail 4 = true)
    (h2 : (octB (valZ (opL l) (wordsL l).tail 0) && octB (valZ (opL l) (wordsL l).tail 1) && octB (valZ (opL l) (wordsL l).tail 2)) = false) : instrL l = badI 3 := by
  simp [instrL, h, h0, h1, h2]
theorem instr_yes {l : List UInt8} (h : opL l ≠ 0) (h0 : (wordsL l).tail.length = posZ (opL l) 4) (h1 : okZ (opL l) (wordsL l).tail 4 = true)
    (h2 : (octB (valZ (opL l) (wordsL l).tail 0) && octB (valZ (opL l) (wordsL l).tail 1) && octB (valZ (opL l) (wordsL l).tail 2)) = true) :
    instrL l = ⟨opL l, valZ (opL l) (wordsL l).tail 0, valZ (opL l) (wordsL l).tail 1, valZ (opL l) (wordsL l).tail 2, valZ (opL l) (wordsL l).tail 3, 0⟩ := by
  simp [instrL, h, h0, h1, h2]
theorem opL_in (l : List UInt8) : opL l = 0 ∨ (1 ≤ opL l ∧ opL l ≤ 25) := by
  unfold opL
  split
  · exact .inl rfl
  · rcases opZ_in ‹_› with h | h
    · exact .inl h
    · exact .inr ⟨h.1, h.2.1⟩
/-- The dashes, counted. -/
theorem dashes_all : ((List.range 26).all fun k => k == 0 || Lib.countByte (shapeK k) 45 + posZ k 4 == (shapeK k).length) = true := by decide +kernel
theorem dashes (z : Int) (h : 1 ≤ z ∧ z ≤ 25) : Lib.countByte (shapeZ z) 45 + posZ z 4 = 4 := by
  obtain ⟨k, rfl⟩ : ∃ k : Nat, z = k := ⟨z.toNat, by omega⟩
  have := List.all_eq_true.1 dashes_all k (List.mem_range.2 (by omega))
  rw [Bool.or_eq_true, beq_iff_eq, beq_iff_eq] at this
  have this := this.resolve_left (by omega)
  rw [shapeZ_in k (by omega), this, ← shapeZ_in k (by omega), shape_four h]
end Go.Proofs.YtjpddfnkamahfaaDoor.Line
