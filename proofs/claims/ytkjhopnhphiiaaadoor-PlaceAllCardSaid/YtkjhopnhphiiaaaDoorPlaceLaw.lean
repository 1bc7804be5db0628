/-
  Which places a program has, plainly: one by one, and by what they are.
-/
import Derived.IntWalk
set_option linter.unusedVariables false
namespace Go.Proofs.YtkjhopnhphiiaaaDoor.Line
/-- A place: its kind and two numbers. -/
abbrev Pl := Int × Int × Int
def lessB (k i j k2 i2 j2 : Int) : Bool := if k ≠ k2 then decide (k < k2) else if i ≠ i2 then decide (i < i2) else decide (j < j2)
/-- The kinds of places: number, first, and two sizes. -/
def sizesL (r c s t : Nat) : List (Nat × Nat × Nat × Nat) := [(1, 0, r, 1), (2, 1, c, 1), (3, 1, c, 2), (4, 0, 1, 1), (5, 0, t, s), (6, 0, 1, 1), (7, 0, t, 1), (8, 0, t, 1)]
def ofSize (z : Nat × Nat × Nat × Nat) : List Pl := (List.range (z.2.2.1 * z.2.2.2)).map fun n => ((z.1 : Int), ((z.2.1 + n / z.2.2.2 : Nat) : Int), ((n % z.2.2.2 : Nat) : Int))
def placesL (r c s t : Nat) : List Pl := (sizesL r c s t).flatMap ofSize
/-- Is it one of a program's? -/
def isPl (r c s t : Nat) (x : Pl) : Bool :=
  if x.1 = 1 then decide (0 ≤ x.2.1 ∧ x.2.1 < r ∧ x.2.2 = 0)
  else if x.1 = 2 then decide (1 ≤ x.2.1 ∧ x.2.1 ≤ c ∧ x.2.2 = 0)
  else if x.1 = 3 then decide (1 ≤ x.2.1 ∧ x.2.1 ≤ c ∧ 0 ≤ x.2.2 ∧ x.2.2 ≤ 1)
  else if x.1 = 4 ∨ x.1 = 6 then decide (x.2.1 = 0 ∧ x.2.2 = 0)
  else if x.1 = 5 then decide (0 ≤ x.2.1 ∧ x.2.1 < t ∧ 0 ≤ x.2.2 ∧ x.2.2 < s)
  else if x.1 = 7 ∨ x.1 = 8 then decide (0 ≤ x.2.1 ∧ x.2.1 < t ∧ x.2.2 = 0)
  else false
theorem mem_ofSize (k f i j : Nat) (x : Pl) : x ∈ ofSize (k, f, i, j) ↔ x.1 = k ∧ (f : Int) ≤ x.2.1 ∧ x.2.1 < f + i ∧ 0 ≤ x.2.2 ∧ x.2.2 < j := by
  obtain ⟨a, b, c⟩ := x
  simp only [ofSize, List.mem_map, List.mem_range, Prod.mk.injEq]
  constructor
  · rintro ⟨n, hn, rfl, rfl, rfl⟩
    have hj : 0 < j := by
      rcases Nat.eq_zero_or_pos j with rfl | h
      · simp at hn
      · exact h
    have h1 : n / j < i := by rw [Nat.div_lt_iff_lt_mul hj]; exact hn
    have h2 := Nat.mod_lt n hj
    generalize n / j = p at *
    generalize n % j = q at *
    refine ⟨rfl, by omega, by omega, by omega, by omega⟩
  · rintro ⟨rfl, h1, h2, h3, h4⟩
    have hj : 0 < j := by omega
    obtain ⟨p, rfl⟩ : ∃ p : Nat, b = ((f + p : Nat) : Int) := ⟨(b - f).toNat, by omega⟩
    obtain ⟨q, rfl⟩ : ∃ q : Nat, c = (q : Int) := ⟨c.toNat, by omega⟩
    have hp : p < i := by omega
    have hq : q < j := by omega
    refine ⟨p * j + q, ?_, rfl, ?_, ?_⟩
    · have : (p + 1) * j ≤ i * j := Nat.mul_le_mul_right _ hp
      rw [Nat.add_mul] at this; omega
    · rw [Nat.mul_comm, Nat.mul_add_div hj, Nat.div_eq_of_lt hq]; rfl
    · rw [Nat.mul_comm, Nat.mul_add_mod, Nat.mod_eq_of_lt hq]
theorem mem_places (r c s t : Nat) (x : Pl) : x ∈ placesL r c s t ↔ isPl r c s t x = true := by
  simp only [placesL, sizesL, List.flatMap_cons, List.flatMap_nil, List.mem_append, List.append_nil, mem_ofSize]
  unfold isPl
  obtain ⟨a, b, d⟩ := x
  simp only
  repeat' split
  all_goals simp only [decide_eq_true_eq, Bool.false_eq_true]
  all_goals first | omega | (refine ⟨fun h => ?_, fun h => h.elim⟩; omega)
def sortedB : List Pl → Bool
  | a :: b :: r => lessB a.1 a.2.1 a.2.2 b.1 b.2.1 b.2.2 && sortedB (b :: r)
  | _ => true
theorem places_sorted (r c s t : Nat) (hr : r ≤ 4) (hc : c ≤ 6) (hs : s ≤ 2) (ht : t ≤ 4) : sortedB (placesL r c s t) = true := by
  have H : ∀ r, r < 5 → ∀ c, c < 7 → ∀ s, s < 3 → ∀ t, t < 5 → sortedB (placesL r c s t) = true := by decide +kernel
  exact H r (by omega) c (by omega) s (by omega) t (by omega)
theorem sorted_at : ∀ (l : List Pl) (i : Nat) (a b : Pl), sortedB l = true → l[i]? = some a → l[i + 1]? = some b → lessB a.1 a.2.1 a.2.2 b.1 b.2.1 b.2.2 = true
  | x :: y :: r, 0, a, b, h, ha, hb => by
    simp only [List.getElem?_cons_zero, Option.some.injEq, List.getElem?_cons_succ, Nat.zero_add] at ha hb
    subst ha; subst hb
    simp only [sortedB, Bool.and_eq_true] at h
    exact h.1
  | x :: y :: r, i + 1, a, b, h, ha, hb => by
    simp only [sortedB, Bool.and_eq_true] at h
    exact sorted_at (y :: r) i a b h.2 (by simpa using ha) (by simpa using hb)
  | [x], i, a, b, h, ha, hb => by simp at hb
  | [], i, a, b, h, ha, hb => by simp at hb
theorem places_len (r c s t : Nat) : (placesL r c s t).length = r + 3 * c + 2 + t * s + 2 * t := by
  simp only [placesL, sizesL, ofSize, List.flatMap_cons, List.flatMap_nil, List.append_nil, List.length_append, List.length_map, List.length_range, Nat.mul_one]
  omega
end Go.Proofs.YtkjhopnhphiiaaaDoor.Line
