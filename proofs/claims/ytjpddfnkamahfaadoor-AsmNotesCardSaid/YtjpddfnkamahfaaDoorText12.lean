/-
  A program's text, in plain terms.
-/
import Derived.Test.YtjpddfnkamahfaaDoorLay12
set_option linter.unusedVariables false
set_option linter.unusedSimpArgs false
namespace Go.Proofs.YtjpddfnkamahfaaDoor.Line
open Go.RowKit Go.Sort Go.Proofs.YtjpddfnkamahfaaDoor.Own Go.Proofs.YtjpddfnkamahfaaDoor.Conv Go.Proofs.YtjpddfnkamahfaaDoor.Open

theorem firstI_all {f : Nat → Int} : ∀ k, firstI f k = 0 → ∀ i, i < k → f i = 0
  | 0, _, i, hi => by omega
  | k + 1, h, i, hi => by
    by_cases h0 : firstI f k = 0
    · rw [firstI, if_pos h0] at h
      rcases Nat.lt_succ_iff_lt_or_eq.1 hi with h1 | rfl
      · exact firstI_all k h0 i h1
      · exact h
    · rw [firstI, if_neg h0] at h
      exact absurd h h0
theorem check_zero {z a b c n r s code : Int} (h : checkZ z a b c n r s code = 0) : 1 ≤ z ∧ z ≤ 25 := by
  by_cases hz : 1 ≤ z ∧ z ≤ 25
  · exact hz
  · rw [check_bad hz] at h; cases h
/-- A program without a mistake. -/
structure Good (r c s : Int) (rows : List RowI) : Prop where
  few : rows.length ≤ 4
  short : ∀ t, lenAt rows t ≤ 16
  kind : ∀ t i, t < rows.length → i < lenAt rows t → 1 ≤ numAt rows t (i * 5) ∧ numAt rows t (i * 5) ≤ 25
theorem good_of {r c s : Int} {rows : List RowI} (h : progE r c s rows = 0) : Good r c s rows := by
  by_cases h1 : 0 ≤ r ∧ r ≤ 4 ∧ 0 ≤ c ∧ c ≤ 6 ∧ 0 ≤ s ∧ s ≤ 2
  · by_cases h2 : 1 ≤ rows.length ∧ rows.length ≤ 4
    · have h3 : ∀ t, t < rows.length → lenAt rows t ≤ 16 := by
        intro t ht
        rcases Nat.lt_or_ge 16 (lenAt rows t) with h3 | h3
        · rw [progE_long h1 h2 ht h3] at h; cases h
        · exact h3
      refine ⟨h2.2, fun t => ?_, fun t i ht hi => ?_⟩
      · rcases Nat.lt_or_ge t rows.length with ht | ht
        · exact h3 t ht
        · rw [lenAt, rowAt, List.getElem?_eq_none ht]; simp
      · rw [progE_else h1 h2 h3] at h
        exact check_zero (firstI_all _ (firstI_all _ h t ht) i hi)
    · rw [progE_many h1 h2] at h; cases h
  · rw [progE_range rows h1] at h; cases h

def insT (rows : List RowI) (t i : Nat) : List UInt8 := instrT (numAt rows t (i * 5)) (numAt rows t (i * 5 + 1)) (numAt rows t (i * 5 + 2)) (numAt rows t (i * 5 + 3)) (numAt rows t (i * 5 + 4))
def bodyI (f : Nat → List UInt8) : Nat → List UInt8
  | 0 => []
  | k + 1 => bodyI f k ++ (f k ++ [10])
def threadW : List UInt8 := [116, 104, 114, 101, 97, 100]
def bodyT (rows : List RowI) : Nat → List UInt8
  | 0 => []
  | t + 1 => bodyT rows t ++ (threadW ++ [10] ++ bodyI (insT rows t) (lenAt rows t))
def headW : List UInt8 := [119, 97, 114, 114, 101, 110, 101, 114]
def headT (r c s : Int) : List UInt8 := Lib.join [headW, Lib.itoa r, Lib.itoa c, Lib.itoa s] [32]
def progT (r c s : Int) (rows : List RowI) : List UInt8 := headT r c s ++ [10] ++ bodyT rows rows.length
def cntT (rows : List RowI) : Nat → Nat
  | 0 => 1
  | t + 1 => cntT rows t + (1 + lenAt rows t)

/-- No line feed. -/
def NoLf (l : List UInt8) : Prop := ∀ b ∈ l, b ≠ 10
theorem nolf_app {l r : List UInt8} (h : NoLf l) (h2 : NoLf r) : NoLf (l ++ r) := by
  intro b hb
  rcases List.mem_append.1 hb with hb | hb
  · exact h b hb
  · exact h2 b hb
theorem nolf_dec (u : Nat) : NoLf (Lib.decDigits u) := by
  intro b hb e
  have := dec_digits u b hb
  rw [e] at this
  have h10 : (10 : UInt8).toNat = 10 := rfl
  omega
theorem nolf_itoa (v : Int) : NoLf (Lib.itoa v) := by
  rcases Int.lt_or_le v 0 with h | h
  · obtain ⟨u, rfl, hu⟩ : ∃ u : Nat, v = -(u : Int) ∧ 1 ≤ u := ⟨v.natAbs, by omega, by omega⟩
    rw [Lib.itoa_neg u hu]
    intro b hb
    rcases List.mem_cons.1 hb with rfl | hb
    · decide
    · exact nolf_dec u b hb
  · obtain ⟨u, rfl⟩ : ∃ u : Nat, v = u := ⟨v.toNat, by omega⟩
    rw [Lib.itoa_nonneg]
    exact nolf_dec u
theorem names_nolf : (kindL.all fun p => p.1.all fun x => x != 10) = true := by decide +kernel
theorem nolf_name (z : Int) : NoLf (nameZ z) := by
  intro x hx
  unfold nameZ at hx
  split at hx
  · unfold nameK at hx
    rcases hk : kindL[z.toNat]? with _ | p
    · rw [hk] at hx; simp at hx
    · rw [hk] at hx
      have h1 := List.all_eq_true.1 names_nolf p (List.mem_of_getElem? hk)
      have h2 := List.all_eq_true.1 h1 x hx
      simpa using h2
  · simp at hx
theorem nolf_line (z a b c n : Int) : ∀ k, NoLf (Lib.join (lineW z a b c n k) [32])
  | 0 => by rw [lineW, Lib.join_one]; exact nolf_name z
  | k + 1 => by
    have ih := nolf_line z a b c n k
    rw [lineW]
    split
    · rw [List.append_nil]; exact ih
    · rw [join_snoc, if_neg (lineW_ne z a b c n k)]
      exact nolf_app ih (nolf_app (by intro b hb; simp at hb; subst hb; decide) (nolf_itoa _))
theorem nolf_ins (rows : List RowI) (t i : Nat) : NoLf (insT rows t i) := nolf_line _ _ _ _ _ 4
theorem head_eq (r c s : Int) : headT r c s = headW ++ [32] ++ Lib.itoa r ++ [32] ++ Lib.itoa c ++ [32] ++ Lib.itoa s := by
  simp [headT, Lib.join]
theorem nolf_sp : NoLf [32] := by intro b hb; simp at hb; subst hb; decide
theorem nolf_head (r c s : Int) : NoLf (headT r c s) := by
  rw [head_eq]
  exact nolf_app (nolf_app (nolf_app (nolf_app (nolf_app (nolf_app (by unfold NoLf headW; decide) nolf_sp) (nolf_itoa _)) nolf_sp) (nolf_itoa _)) nolf_sp) (nolf_itoa _)
theorem lines_bodyI {f : Nat → List UInt8} (hf : ∀ i, NoLf (f i)) : ∀ (k : Nat) (rest : List UInt8), (linesL (bodyI f k ++ rest)).length = k + (linesL rest).length
  | 0, rest => by simp [bodyI]
  | k + 1, rest => by
    rw [bodyI, List.append_assoc, lines_bodyI hf k, List.append_assoc]
    show k + (linesL (f k ++ 10 :: rest)).length = _
    rw [lines_hit _ _ (hf k), List.length_cons]
    omega
theorem lines_bodyT (rows : List RowI) : ∀ (t : Nat) (rest : List UInt8), (linesL (bodyT rows t ++ rest)).length + 1 = cntT rows t + (linesL rest).length
  | 0, rest => by simp [bodyT, cntT]; omega
  | t + 1, rest => by
    rw [bodyT, List.append_assoc, lines_bodyT rows t, List.append_assoc, List.append_assoc]
    show _ + (linesL (threadW ++ 10 :: (bodyI (insT rows t) (lenAt rows t) ++ rest))).length = _
    rw [lines_hit _ _ (by unfold threadW; decide), List.length_cons, lines_bodyI (nolf_ins rows t), cntT]
    omega
theorem lines_prog (r c s : Int) (rows : List RowI) : (linesL (progT r c s rows)).length = cntT rows rows.length := by
  rw [progT, List.append_assoc]
  show (linesL (headT r c s ++ 10 :: bodyT rows rows.length)).length = _
  rw [lines_hit _ _ (nolf_head r c s), List.length_cons]
  have := lines_bodyT rows rows.length []
  rw [List.append_nil] at this
  rw [this]
  simp [linesL]
theorem ins_len {rows : List RowI} (h : ∀ t k, int64 (numAt rows t k)) (t i : Nat) : (insT rows t i).length ≤ 94 := by
  have := line_len (z := numAt rows t (i * 5)) (h t (i * 5 + 1)) (h t (i * 5 + 2)) (h t (i * 5 + 3)) (h t (i * 5 + 4)) 4 (by omega)
  exact this
theorem bodyI_len {f : Nat → List UInt8} (h : ∀ i, (f i).length ≤ 94) : ∀ k, (bodyI f k).length ≤ 95 * k
  | 0 => by simp [bodyI]
  | k + 1 => by
    have := bodyI_len h k
    have := h k
    simp only [bodyI, List.length_append, List.length_cons, List.length_nil]
    omega
theorem bodyT_len {rows : List RowI} (h : ∀ t k, int64 (numAt rows t k)) (h2 : ∀ t, lenAt rows t ≤ 16) : ∀ t, (bodyT rows t).length ≤ 1527 * t
  | 0 => by simp [bodyT]
  | t + 1 => by
    have := bodyT_len h h2 t
    have := bodyI_len (ins_len h t) (lenAt rows t)
    have := h2 t
    simp only [bodyT, threadW, List.length_append, List.length_cons, List.length_nil]
    omega
theorem head_len {r c s : Int} (hr : int64 r) (hc : int64 c) (hs : int64 s) : (headT r c s).length ≤ 74 := by
  have := Lib.itoa_length_le r hr.1 hr.2
  have := Lib.itoa_length_le c hc.1 hc.2
  have := Lib.itoa_length_le s hs.1 hs.2
  simp only [head_eq, headW, List.length_append, List.length_cons, List.length_nil]
  omega
theorem prog_len {r c s : Int} {rows : List RowI} (hr : int64 r) (hc : int64 c) (hs : int64 s) (h : ∀ t k, int64 (numAt rows t k)) (g : Good r c s rows) : (progT r c s rows).length ≤ 7000 := by
  have := head_len hr hc hs
  have := bodyT_len h g.short rows.length
  have := g.few
  simp only [progT, List.length_append, List.length_cons, List.length_nil]
  omega
end Go.Proofs.YtjpddfnkamahfaaDoor.Line
