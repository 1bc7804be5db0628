/-
  A program's text, line by line, gives the program back.
-/
import Derived.Test.YtjpddfnkamahfaaDoorParLaw13
set_option linter.unusedVariables false
set_option linter.unusedSimpArgs false
namespace Go.Proofs.YtjpddfnkamahfaaDoor.Line
open Go.RowKit Go.Sort Go.Proofs.YtjpddfnkamahfaaDoor.Own Go.Proofs.YtjpddfnkamahfaaDoor.Conv Go.Proofs.YtjpddfnkamahfaaDoor.Open

theorem word_of {t : List UInt8} (h0 : t ≠ []) (h : ∀ b ∈ t, b ≠ 32) : wordsL t = [t] := by rw [words_miss t h, if_neg h0]
theorem words_joined : ∀ xs : List (List UInt8), (∀ t ∈ xs, t ≠ [] ∧ ∀ b ∈ t, b ≠ 32) → wordsL (Lib.join xs [32]) = xs
  | [], _ => by rw [Lib.join_nil]; rfl
  | [x], h => by rw [Lib.join_one]; exact word_of (h x (by simp)).1 (h x (by simp)).2
  | x :: y :: r, h => by
    have ih := words_joined (y :: r) (fun t ht => h t (List.mem_cons_of_mem _ ht))
    obtain ⟨h0, h1⟩ := h x (by simp)
    have e : Lib.join (x :: y :: r) [32] = x ++ 32 :: Lib.join (y :: r) [32] := by
      rw [Lib.join_cons, Lib.join_cons]
      simp [Lib.joinTail]
    rw [e, words_hit x _ h1, if_neg h0, ih]
    rfl
theorem itoa_word (v : Int) (h : int64 v) : Lib.itoa v ≠ [] ∧ ∀ b ∈ Lib.itoa v, b ≠ 32 := by
  have hd : ∀ u : Nat, ∀ b ∈ Lib.decDigits u, b ≠ 32 := fun u b hb e => by
    have := dec_digits u b hb
    subst e
    have h32 : (32 : UInt8).toNat = 32 := rfl
    omega
  by_cases hn : v < 0
  · obtain ⟨u, hu⟩ : ∃ u : Nat, v = -(u : Int) := ⟨v.natAbs, by omega⟩
    subst hu
    rw [Lib.itoa_neg u (by omega)]
    refine ⟨by simp, fun b hb => ?_⟩
    rcases List.mem_cons.1 hb with rfl | hb
    · decide
    · exact hd u b hb
  · obtain ⟨u, hu⟩ : ∃ u : Nat, v = (u : Int) := ⟨v.toNat, by omega⟩
    subst hu
    rw [Lib.itoa_nonneg]
    exact ⟨dec_ne u, hd u⟩
theorem num_itoa {v : Int} (h : int64 v) : numberL (Lib.itoa v) = some v := numberL_some.2 ⟨rfl, h.1, h.2⟩
theorem small_itoa {v m : Int} (h0 : 0 ≤ v) (h1 : v ≤ m) (hm : m ≤ 1000) : smallL (Lib.itoa v) m = some v := by
  rw [smallL, num_itoa ⟨by omega, by omega⟩]
  simp only []
  rw [if_pos ⟨h0, h1⟩]
theorem names_word : (kindL.all fun p => p.1.all fun x => x != 32 && x != 35) = true := by decide +kernel
theorem name_bytes (z : Int) : ∀ b ∈ nameZ z, b ≠ 32 ∧ b ≠ 35 := by
  intro b hb
  unfold nameZ at hb
  split at hb
  · unfold nameK at hb
    rcases hk : kindL[z.toNat]? with _ | p
    · rw [hk] at hb; simp at hb
    · rw [hk] at hb
      have h1 := List.all_eq_true.1 names_word p (List.mem_of_getElem? hk)
      have h2 := List.all_eq_true.1 h1 b hb
      simpa using h2
  · simp at hb
theorem names_op : ((List.range 26).all fun k => k == 0 || opZ (nameK k) == (k : Int)) = true := by decide +kernel
theorem op_name {z : Int} (h : 1 ≤ z ∧ z ≤ 25) : opZ (nameZ z) = z := by
  obtain ⟨k, rfl⟩ : ∃ k : Nat, z = k := ⟨z.toNat, by omega⟩
  have := List.all_eq_true.1 names_op k (List.mem_range.2 (by omega))
  rw [Bool.or_eq_true, beq_iff_eq, beq_iff_eq] at this
  rw [nameZ_in k (by omega)]
  exact this.resolve_left (by omega)

/-- The operands' words. -/
def argW (z a b c n : Int) : Nat → List (List UInt8)
  | 0 => []
  | k + 1 => argW z a b c n k ++ (if (shapeZ z)[k]? = some 45 then [] else [Lib.itoa (fldZ a b c n k)])
theorem line_args (z a b c n : Int) : ∀ k, lineW z a b c n k = nameZ z :: argW z a b c n k
  | 0 => rfl
  | k + 1 => by rw [lineW, argW, line_args z a b c n k, List.cons_append]
theorem arg_len (z a b c n : Int) : ∀ k, (argW z a b c n k).length = posZ z k
  | 0 => rfl
  | k + 1 => by
    rw [argW, List.length_append, arg_len z a b c n k, posZ]
    split <;> rfl
theorem arg_at (z a b c n : Int) {i : Nat} (hd : (shapeZ z)[i]? ≠ some 45) : ∀ k, i < k → (argW z a b c n k)[posZ z i]? = some (Lib.itoa (fldZ a b c n i))
  | 0, h => by omega
  | k + 1, h => by
    rw [argW]
    rcases Nat.lt_succ_iff_lt_or_eq.1 h with h1 | rfl
    · have := arg_at z a b c n hd k h1
      rw [List.getElem?_append_left (List.getElem?_eq_some_iff.1 this).1]
      exact this
    · rw [if_neg hd, List.getElem?_append_right (by rw [arg_len]; exact Nat.le_refl _), arg_len, Nat.sub_self]
      rfl
theorem arg_words {z a b c n : Int} (ha : int64 a) (hb : int64 b) (hc : int64 c) (hn : int64 n) : ∀ k, ∀ t ∈ argW z a b c n k, t ≠ [] ∧ ∀ b ∈ t, b ≠ 32
  | 0, t, h => by simp [argW] at h
  | k + 1, t, h => by
    rw [argW] at h
    rcases List.mem_append.1 h with h | h
    · exact arg_words ha hb hc hn k t h
    · split at h
      · simp at h
      · rw [List.mem_singleton] at h
        subst h
        exact itoa_word _ (fld_bd ha hb hc hn _)
theorem words_ins {z a b c n : Int} (hz : 1 ≤ z ∧ z ≤ 25) (ha : int64 a) (hb : int64 b) (hc : int64 c) (hn : int64 n) : wordsL (instrT z a b c n) = nameZ z :: argW z a b c n 4 := by
  rw [instrT, words_joined, line_args]
  intro t ht
  rw [line_args] at ht
  rcases List.mem_cons.1 ht with rfl | ht
  · exact ⟨name_ne hz, fun b hb => (name_bytes z b hb).1⟩
  · exact arg_words ha hb hc hn 4 t ht
theorem arg_num {z a b c n : Int} (ha : int64 a) (hb : int64 b) (hc : int64 c) (hn : int64 n) {i : Nat} (h : i < 4) (hd : (shapeZ z)[i]? ≠ some 45) : wordN (argW z a b c n 4) (posZ z i) = some (fldZ a b c n i) := by
  rw [wordN, arg_at z a b c n hd 4 h, Option.bind_some]
  exact num_itoa (fld_bd ha hb hc hn _)
theorem shapes_low : (kindL.all fun p => (p.2.take 3).all fun x => x != 110) = true := by decide +kernel
theorem shape_low {z : Int} (hz : 1 ≤ z ∧ z ≤ 25) {k : Nat} (hk : k < 3) {x : UInt8} (hx : (shapeZ z)[k]? = some x) : x.toNat ≠ 110 := by
  obtain ⟨j, rfl⟩ : ∃ j : Nat, z = j := ⟨z.toNat, by omega⟩
  rw [shapeZ_in j (by omega)] at hx
  unfold shapeK at hx
  rcases hj : kindL[j]? with _ | p
  · rw [hj] at hx; simp at hx
  · rw [hj] at hx
    have h1 := List.all_eq_true.1 shapes_low p (List.mem_of_getElem? hj)
    have h2 := List.all_eq_true.1 h1 x (List.mem_of_getElem? (i := k) (by rw [List.getElem?_take, if_pos hk]; exact hx))
    intro e
    have : x = 110 := UInt8.toNat_inj.1 e
    simp [this] at h2
/-- An instruction that may be is its line's. -/
theorem ins_back {z a b c n r s code : Int} (ha : int64 a) (hb : int64 b) (hc : int64 c) (hn : int64 n) (h : checkZ z a b c n r s code = 0) (hr : r ≤ 100) (hs : s ≤ 100) (hcd : code ≤ 100) : instrL (instrT z a b c n) = ⟨z, a, b, c, n, 0⟩ := by
  have hz := check_zero h
  have hfit : ∀ k, k < 4 → fitK z a b c n r s code k = true := by
    intro k hk
    cases hf : fitK z a b c n r s code k with
    | true => rfl
    | false => rw [check_no hz hk hf] at h; cases h
  have hw := words_ins hz ha hb hc hn
  have hop : opL (instrT z a b c n) = z := by unfold opL; rw [hw]; exact op_name hz
  have htl : (wordsL (instrT z a b c n)).tail = argW z a b c n 4 := by rw [hw]; rfl
  have hlen : ∀ k, k < 4 → ∃ x, (shapeZ z)[k]? = some x := fun k hk => ⟨_, List.getElem?_eq_getElem (by rw [shape_four hz]; exact hk)⟩
  have hval : ∀ k, k < 4 → valZ z (argW z a b c n 4) k = fldZ a b c n k := by
    intro k hk
    rw [valZ]
    split
    · rename_i hd
      have := hfit k hk
      rw [fitK, hd] at this
      have e : ((((some (45 : UInt8)).getD 0).toNat : Nat) : Int) = 45 := rfl
      rw [e] at this
      simp [fitB, mostZ] at this
      omega
    · rename_i hd
      rw [arg_num ha hb hc hn hk hd]; rfl
  have hok : ∀ k, k ≤ 4 → okZ z (argW z a b c n 4) k = true := by
    intro k
    induction k with
    | zero => intro _; rfl
    | succ k ih =>
      intro hk
      refine okZ_next (ih (by omega)) ?_
      by_cases hd : (shapeZ z)[k]? = some 45
      · exact .inl hd
      · exact .inr (by rw [arg_num ha hb hc hn (by omega) hd]; rfl)
  have hoct : ∀ k : Nat, k < 3 → octB (fldZ a b c n k) = true := by
    intro k hk
    obtain ⟨x, hx⟩ := hlen k (by omega)
    have h1 := shape_low hz hk hx
    have h2 := hfit k (by omega)
    rw [fitK, hx, Option.getD_some] at h2
    have hm : mostZ (x.toNat : Int) r s code ≤ 255 := by
      unfold mostZ
      repeat' split
      all_goals omega
    rw [fitB, Bool.or_eq_true, Bool.and_eq_true, decide_eq_true_eq, decide_eq_true_eq, beq_iff_eq] at h2
    rcases h2 with h2 | ⟨h2, h3⟩
    · exact absurd (by omega : x.toNat = 110) h1
    · rw [octB, Bool.and_eq_true, decide_eq_true_eq, decide_eq_true_eq]
      exact ⟨h2, by omega⟩
  have v0 := hval 0 (by omega)
  have v1 := hval 1 (by omega)
  have v2 := hval 2 (by omega)
  have v3 := hval 3 (by omega)
  rw [instr_yes (by rw [hop]; omega) (by rw [htl, hop, arg_len]) (by rw [htl, hop]; exact hok 4 (Nat.le_refl _)) (by rw [htl, hop, v0, v1, v2, hoct 0 (by omega), hoct 1 (by omega), hoct 2 (by omega)]; rfl), htl, hop, v0, v1, v2, v3]
  rfl

/-! ### line by line -/
theorem head_words {r c s : Int} (hr : int64 r) (hc : int64 c) (hs : int64 s) : wordsL (headT r c s) = [headW, Lib.itoa r, Lib.itoa c, Lib.itoa s] := by
  rw [headT, words_joined]
  intro t ht
  simp only [List.mem_cons, List.not_mem_nil, or_false] at ht
  rcases ht with rfl | rfl | rfl | rfl
  · exact ⟨by decide, by decide⟩
  · exact itoa_word _ hr
  · exact itoa_word _ hc
  · exact itoa_word _ hs
theorem line_first {r c s : Int} (hr : 0 ≤ r ∧ r ≤ 255) (hc : 0 ≤ c ∧ c ≤ 255) (hs : 0 ≤ s ∧ s ≤ 255) {l : List UInt8} (hl : wordsL l = [headW, Lib.itoa r, Lib.itoa c, Lib.itoa s]) : lineS ps0 l = (⟨r, c, s, true, []⟩, 0) := by
  have n0 : hdN [headW, Lib.itoa r, Lib.itoa c, Lib.itoa s] 0 = some r := small_itoa hr.1 hr.2 (by omega)
  have n1 : hdN [headW, Lib.itoa r, Lib.itoa c, Lib.itoa s] 1 = some c := small_itoa hc.1 hc.2 (by omega)
  have n2 : hdN [headW, Lib.itoa r, Lib.itoa c, Lib.itoa s] 2 = some s := small_itoa hs.1 hs.2 (by omega)
  have hok : headOk [headW, Lib.itoa r, Lib.itoa c, Lib.itoa s] = true := by
    rw [headOk, n0, n1, n2]; simp
  unfold lineS
  simp only [hl, hdV, n0, n1, n2, Option.getD_some]
  rw [if_neg (by simp [headW]), if_pos (show ps0.bg = false from rfl), if_pos hok]
  rfl
theorem line_thr {st : PS} (hb : st.bg = true) (hn : st.rows.length < 4) {l : List UInt8} (hl : wordsL l = [threadW]) : lineS st l = (⟨st.r, st.c, st.s, true, st.rows ++ [[]]⟩, 0) := by
  unfold lineS
  simp only [hl, hb]
  rw [if_neg (by simp [threadW]), if_neg (by simp), if_pos trivial, if_neg (by omega)]
theorem putLast_snoc : ∀ (pre : List (List Int)) (xs y : List Int), putLast (pre ++ [xs]) y = pre ++ [xs ++ y]
  | [], _, _ => rfl
  | [p], _, _ => rfl
  | p :: q :: r, xs, y => by
    have := putLast_snoc (q :: r) xs y
    rw [List.cons_append, List.cons_append] at this ⊢
    rw [putLast, this]
    rfl
theorem lastL_snoc (pre : List (List Int)) (xs : List Int) : lastL (pre ++ [xs]) = xs := by simp [lastL]
theorem line_ins {r c s z a b d n : Int} {pre : List (List Int)} {xs : List Int} {l : List UInt8} {w : List UInt8} {ws : List (List UInt8)} (hl : wordsL l = w :: ws) (h35 : w.head? ≠ some 35) (hth : w ≠ threadW) (hi : instrL l = ⟨z, a, b, d, n, 0⟩) (hx : xs.length < 80) :
    lineS ⟨r, c, s, true, pre ++ [xs]⟩ l = (⟨r, c, s, true, pre ++ [xs ++ [z, a, b, d, n]]⟩, 0) := by
  unfold lineS
  simp only [hl, hi, lastL_snoc, putLast_snoc]
  rw [if_neg (by simpa using h35), if_neg (by simp), if_neg (by intro e; exact hth (List.cons.inj e).1), if_neg (by simp), if_neg (by simp), if_neg (by omega)]

def five (rows : List RowI) (t i : Nat) : List Int := [numAt rows t (i * 5), numAt rows t (i * 5 + 1), numAt rows t (i * 5 + 2), numAt rows t (i * 5 + 3), numAt rows t (i * 5 + 4)]
def rowN (rows : List RowI) (t q : Nat) : List Int := (List.range (q * 5)).map (numAt rows t)
theorem rowN_step (rows : List RowI) (t q : Nat) : rowN rows t (q + 1) = rowN rows t q ++ five rows t q := by
  rw [rowN, show (q + 1) * 5 = q * 5 + 1 + 1 + 1 + 1 + 1 by omega]
  simp only [List.range_succ, List.map_append, List.map_cons, List.map_nil, List.append_assoc]
  rfl
theorem rowN_len (rows : List RowI) (t q : Nat) : (rowN rows t q).length = q * 5 := by simp [rowN]
/-- A program's threads' numbers. -/
def rowsN (rows : List RowI) (T : Nat) : List (List Int) := (List.range T).map fun t => rowN rows t (lenAt rows t)
theorem rowsN_len (rows : List RowI) (T : Nat) : (rowsN rows T).length = T := by simp [rowsN]
theorem rowsN_step (rows : List RowI) (T : Nat) : rowsN rows (T + 1) = rowsN rows T ++ [rowN rows T (lenAt rows T)] := by
  rw [rowsN, List.range_succ, List.map_append]; rfl
/-- A program's lines. -/
def threadL (rows : List RowI) (t : Nat) : List (List UInt8) := threadW :: (List.range (lenAt rows t)).map (insT rows t)
def bodyL (rows : List RowI) (T : Nat) : List (List UInt8) := (List.range T).flatMap (threadL rows)
def progL (r c s : Int) (rows : List RowI) : List (List UInt8) := headT r c s :: bodyL rows rows.length
theorem bodyL_step (rows : List RowI) (T : Nat) : bodyL rows (T + 1) = bodyL rows T ++ threadL rows T := by
  rw [bodyL, List.range_succ, List.flatMap_append]; simp [bodyL]
theorem nolf_thread : NoLf threadW := by intro b hb; simp [threadW] at hb; rcases hb with rfl | rfl | rfl | rfl | rfl | rfl <;> decide
theorem lines_one {l : List UInt8} (h : NoLf l) (rest : List UInt8) : linesL (l ++ ([10] ++ rest)) = l :: linesL rest := lines_hit l rest h
theorem lines_insts {f : Nat → List UInt8} (hf : ∀ i, NoLf (f i)) : ∀ (k : Nat) (rest : List UInt8), linesL (bodyI f k ++ rest) = (List.range k).map f ++ linesL rest
  | 0, rest => rfl
  | k + 1, rest => by
    rw [bodyI, List.append_assoc, lines_insts hf k, List.append_assoc, lines_one (hf k), List.range_succ, List.map_append, List.append_assoc]
    rfl
theorem lines_threads (rows : List RowI) : ∀ (T : Nat) (rest : List UInt8), linesL (bodyT rows T ++ rest) = bodyL rows T ++ linesL rest
  | 0, rest => rfl
  | T + 1, rest => by
    rw [bodyT, List.append_assoc, lines_threads rows T, List.append_assoc, List.append_assoc, lines_one nolf_thread, lines_insts (nolf_ins rows T), bodyL_step, List.append_assoc]
    rfl
theorem lines_of_prog (r c s : Int) (rows : List RowI) : linesL (progT r c s rows) = progL r c s rows := by
  have := lines_threads rows rows.length []
  rw [List.append_nil] at this
  rw [progT, List.append_assoc, lines_one (nolf_head r c s), this, progL]
  simp [linesL]

/-- What of a program's mistakes is none. -/
structure Fine (r c s : Int) (rows : List RowI) : Prop where
  num : 0 ≤ r ∧ r ≤ 4 ∧ 0 ≤ c ∧ c ≤ 6 ∧ 0 ≤ s ∧ s ≤ 2
  few : rows.length ≤ 4
  short : ∀ t, lenAt rows t ≤ 16
  ins : ∀ t i, t < rows.length → i < lenAt rows t → chkAt r s rows t i = 0
theorem fine_of {r c s : Int} {rows : List RowI} (h : progE r c s rows = 0) : Fine r c s rows := by
  by_cases h1 : 0 ≤ r ∧ r ≤ 4 ∧ 0 ≤ c ∧ c ≤ 6 ∧ 0 ≤ s ∧ s ≤ 2
  · by_cases h2 : 1 ≤ rows.length ∧ rows.length ≤ 4
    · have h3 : ∀ t, t < rows.length → lenAt rows t ≤ 16 := by
        intro t ht
        rcases Nat.lt_or_ge 16 (lenAt rows t) with h3 | h3
        · rw [progE_long h1 h2 ht h3] at h; cases h
        · exact h3
      refine ⟨h1, h2.2, fun t => ?_, fun t i ht hi => ?_⟩
      · rcases Nat.lt_or_ge t rows.length with ht | ht
        · exact h3 t ht
        · rw [lenAt, rowAt, List.getElem?_eq_none ht]; simp
      · rw [progE_else h1 h2 h3] at h
        exact firstI_all _ (firstI_all _ h t ht) i hi
    · rw [progE_many h1 h2] at h; cases h
  · rw [progE_range rows h1] at h; cases h

section
variable {r c s : Int} {rows : List RowI}
theorem line_insT (h64 : ∀ t k, int64 (numAt rows t k)) (g : Fine r c s rows) {t i : Nat} (ht : t < rows.length) (hi : i < lenAt rows t) {pre : List (List Int)} {xs : List Int} (hx : xs.length < 80) {l : List UInt8} (hl : wordsL l = wordsL (insT rows t i)) :
    lineS ⟨r, c, s, true, pre ++ [xs]⟩ l = (⟨r, c, s, true, pre ++ [xs ++ five rows t i]⟩, 0) := by
  rw [lineS_words hl]
  have h := g.ins t i ht hi
  have hn := g.num
  have hsh := g.short t
  have hz := check_zero h
  have hw := words_ins hz (h64 t (i * 5 + 1)) (h64 t (i * 5 + 2)) (h64 t (i * 5 + 3)) (h64 t (i * 5 + 4))
  have hb := ins_back (h64 t (i * 5 + 1)) (h64 t (i * 5 + 2)) (h64 t (i * 5 + 3)) (h64 t (i * 5 + 4)) h (by omega) (by omega) (by omega)
  refine line_ins hw ?_ ?_ hb hx
  · intro e
    cases hnm : nameZ (numAt rows t (i * 5)) with
    | nil => rw [hnm] at e; simp at e
    | cons x y =>
      rw [hnm] at e
      simp only [List.head?_cons, Option.some.injEq] at e
      exact (name_bytes (numAt rows t (i * 5)) x (by rw [hnm]; simp)).2 e
  · intro e
    have := op_name hz
    rw [e, show opZ threadW = 0 by decide +kernel] at this
    omega
theorem run_insts (h64 : ∀ t k, int64 (numAt rows t k)) (g : Fine r c s rows) {t : Nat} (ht : t < rows.length) (pre : List (List Int)) : ∀ q, q ≤ lenAt rows t →
    runS ⟨r, c, s, true, pre ++ [[]]⟩ ((List.range q).map (insT rows t)) = (⟨r, c, s, true, pre ++ [rowN rows t q]⟩, 0)
  | 0, _ => rfl
  | q + 1, hq => by
    have ih := run_insts h64 g ht pre q (by omega)
    have hsh := g.short t
    rw [List.range_succ, List.map_append, runS_app _ _ _ (by rw [ih]), ih, List.map_cons, List.map_nil, runS_one, line_insT h64 g ht (by omega) (by rw [rowN_len]; omega) rfl, rowN_step]
theorem run_threads (h64 : ∀ t k, int64 (numAt rows t k)) (g : Fine r c s rows) : ∀ T, T ≤ rows.length →
    runS ⟨r, c, s, true, []⟩ (bodyL rows T) = (⟨r, c, s, true, rowsN rows T⟩, 0)
  | 0, _ => rfl
  | T + 1, hT => by
    have ih := run_threads h64 g T (by omega)
    have hf := g.few
    have h1 : lineS ⟨r, c, s, true, rowsN rows T⟩ threadW = (⟨r, c, s, true, rowsN rows T ++ [[]]⟩, 0) := line_thr rfl (by show (rowsN rows T).length < 4; rw [rowsN_len]; omega) (by decide)
    rw [bodyL_step, runS_app _ _ _ (by rw [ih]), ih, threadL, runS, h1, if_pos rfl, run_insts h64 g (by omega) _ _ (Nat.le_refl _), rowsN_step]
theorem run_prog (h64 : ∀ t k, int64 (numAt rows t k)) (g : Fine r c s rows) : runS ps0 (progL r c s rows) = (⟨r, c, s, true, rowsN rows rows.length⟩, 0) := by
  have hn := g.num
  have hh := line_first (r := r) (c := c) (s := s) ⟨by omega, by omega⟩ ⟨by omega, by omega⟩ ⟨by omega, by omega⟩ (head_words (r := r) (c := c) (s := s) ⟨by omega, by omega⟩ ⟨by omega, by omega⟩ ⟨by omega, by omega⟩)
  rw [progL, runS, hh, if_pos rfl, run_threads h64 g _ (Nat.le_refl _)]
end
end Go.Proofs.YtjpddfnkamahfaaDoor.Line
