/-
  A program in memory; which mistake of it is told first.
-/
import Derived.Test.YtjpddfnkamahfaaDoorCheck12
import Derived.Test.YtjpddfnkamahfaaDoorOpenRows
set_option linter.unusedVariables false
namespace Go.Proofs.YtjpddfnkamahfaaDoor.Line
open Go.RowKit Go.Sort Go.Proofs.YtjpddfnkamahfaaDoor.Own Go.Proofs.YtjpddfnkamahfaaDoor.Conv Go.Proofs.YtjpddfnkamahfaaDoor.Calm Go.Proofs.YtjpddfnkamahfaaDoor.Open

/-- The first that is not 0. -/
def firstI (f : Nat → Int) : Nat → Int
  | 0 => 0
  | k + 1 => if firstI f k = 0 then f k else firstI f k
theorem firstI_zero (f : Nat → Int) (k : Nat) (h : firstI f k = 0) : firstI f (k + 1) = f k := by rw [firstI, if_pos h]
theorem firstI_on (f : Nat → Int) (k m : Nat) (hkm : k ≤ m) (h : firstI f k ≠ 0) : firstI f m = firstI f k := by
  induction m with
  | zero => rw [show k = 0 by omega]
  | succ m ih =>
    rcases Nat.lt_or_ge m k with h1 | h1
    · rw [show k = m + 1 by omega]
    · have h2 := ih h1
      rw [firstI, if_neg (by rw [h2]; exact h), h2]
def firstT (L : Nat → Nat) (chk : Nat → Nat → Int) : Nat → Int := firstI fun t => firstI (chk t) (L t)

def rowAt (rows : List RowI) (t : Nat) : RowI := rows[t]?.getD ⟨.slice none 0 0, 0, []⟩
def lenAt (rows : List RowI) (t : Nat) : Nat := (rowAt rows t).n
def numAt (rows : List RowI) (t k : Nat) : Int := (rowAt rows t).zs[k]?.getD 0
def chkAt (r s : Int) (rows : List RowI) (t i : Nat) : Int :=
  checkZ (numAt rows t (i * 5)) (numAt rows t (i * 5 + 1)) (numAt rows t (i * 5 + 2)) (numAt rows t (i * 5 + 3)) (numAt rows t (i * 5 + 4)) r s (lenAt rows t)
/-- What is wrong with a program. -/
def progE (r c s : Int) (rows : List RowI) : Int :=
  if ¬ (0 ≤ r ∧ r ≤ 4 ∧ 0 ≤ c ∧ c ≤ 6 ∧ 0 ≤ s ∧ s ≤ 2) then 3
  else if ¬ (1 ≤ rows.length ∧ rows.length ≤ 4) then 4
  else if (List.range rows.length).any (fun t => decide (16 < lenAt rows t)) then 4
  else firstT (lenAt rows) (chkAt r s rows) rows.length

theorem progE_range {r c s : Int} (rows : List RowI) (h : ¬ (0 ≤ r ∧ r ≤ 4 ∧ 0 ≤ c ∧ c ≤ 6 ∧ 0 ≤ s ∧ s ≤ 2)) : progE r c s rows = 3 := by rw [progE, if_pos h]
theorem progE_many {r c s : Int} {rows : List RowI} (h : 0 ≤ r ∧ r ≤ 4 ∧ 0 ≤ c ∧ c ≤ 6 ∧ 0 ≤ s ∧ s ≤ 2) (h1 : ¬ (1 ≤ rows.length ∧ rows.length ≤ 4)) : progE r c s rows = 4 := by rw [progE, if_neg (fun f => f h), if_pos h1]
theorem progE_long {r c s : Int} {rows : List RowI} (h : 0 ≤ r ∧ r ≤ 4 ∧ 0 ≤ c ∧ c ≤ 6 ∧ 0 ≤ s ∧ s ≤ 2) (h1 : 1 ≤ rows.length ∧ rows.length ≤ 4) {t : Nat} (ht : t < rows.length) (h2 : 16 < lenAt rows t) : progE r c s rows = 4 := by
  rw [progE, if_neg (fun f => f h), if_neg (fun f => f h1), if_pos (List.any_eq_true.2 ⟨t, List.mem_range.2 ht, decide_eq_true h2⟩)]
theorem progE_else {r c s : Int} {rows : List RowI} (h : 0 ≤ r ∧ r ≤ 4 ∧ 0 ≤ c ∧ c ≤ 6 ∧ 0 ≤ s ∧ s ≤ 2) (h1 : 1 ≤ rows.length ∧ rows.length ≤ 4) (h2 : ∀ t, t < rows.length → lenAt rows t ≤ 16) : progE r c s rows = firstT (lenAt rows) (chkAt r s rows) rows.length := by
  rw [progE, if_neg (fun f => f h), if_neg (fun f => f h1), if_neg]
  intro f
  obtain ⟨t, ht, h3⟩ := List.any_eq_true.1 f
  have h4 := h2 t (List.mem_range.1 ht)
  have h5 := of_decide_eq_true h3
  omega
/-- The first mistake is found at instruction i of thread t. -/
theorem first_at {L : Nat → Nat} {chk : Nat → Nat → Int} {N t i : Nat} (ht : t < N) (hi : i < L t) (h0 : firstT L chk t = 0) (h1 : firstI (chk t) i = 0) (h2 : chk t i ≠ 0) : firstT L chk N = chk t i := by
  have e1 : firstI (chk t) (i + 1) = chk t i := firstI_zero _ _ h1
  have e2 : firstI (chk t) (L t) = chk t i := by rw [firstI_on (chk t) (i + 1) (L t) (by omega) (by rw [e1]; exact h2), e1]
  have e3 : firstT L chk (t + 1) = chk t i := by rw [firstT, firstI_zero _ _ h0, e2]
  rw [firstT, firstI_on _ (t + 1) N (by omega) (by rw [← firstT, e3]; exact h2), ← firstT, e3]
theorem first_row {L : Nat → Nat} {chk : Nat → Nat → Int} {t : Nat} (h0 : firstT L chk t = 0) (h1 : firstI (chk t) (L t) = 0) : firstT L chk (t + 1) = 0 := by
  rw [firstT, firstI_zero _ _ h0, h1]
theorem first_ins {f : Nat → Int} {i : Nat} (h0 : firstI f i = 0) (h1 : f i = 0) : firstI f (i + 1) = 0 := by
  rw [firstI_zero _ _ h0, h1]

/-- A program's code, as it lies. -/
structure PR (w : World) (u : Value) (rows : List RowI) : Prop where
  rd : Rd w 1 u rows.length (rows.map (·.v))
  row : ∀ t, t < rows.length → Rd w 5 (rowAt rows t).v (rowAt rows t).n (vals (rowAt rows t).zs)
  int : ∀ t k, int64 (numAt rows t k)
theorem PR.kept {w w' : World} {u : Value} {rows : List RowI} (h : PR w u rows) (hk : Kept No w w') : PR w' u rows :=
  ⟨h.rd.kept hk (fun _ _ => id), fun t ht => (h.row t ht).kept hk (fun _ _ => id), h.int⟩
theorem rowAt_map {rows : List RowI} {t : Nat} (h : t < rows.length) : (rows.map (·.v))[t]? = some (rowAt rows t).v := by
  rw [List.getElem?_map, rowAt, List.getElem?_eq_getElem h]; rfl
theorem pr_of {w : World} {u : Value} {rows : List RowI} (h : Rd w 1 u rows.length (rows.map (·.v))) (hr : ∀ q ∈ rows, Rd w 5 q.v q.n (vals q.zs) ∧ ∀ z ∈ q.zs, int64 z) : PR w u rows := by
  refine ⟨h, fun t ht => ?_, fun t k => ?_⟩
  · have : rowAt rows t ∈ rows := by rw [rowAt, List.getElem?_eq_getElem ht]; exact List.getElem_mem ht
    exact (hr _ this).1
  · unfold numAt rowAt
    rcases ht : rows[t]? with _ | q
    · exact ⟨by simp, by simp⟩
    · rcases hk : q.zs[k]? with _ | z
      · simp only [Option.getD_some, hk]; exact ⟨by simp, by simp⟩
      · simp only [Option.getD_some, hk]
        exact (hr q (List.mem_of_getElem? ht)).2 z (List.mem_of_getElem? hk)
/-- A thread's slice, and where its header lies. -/
theorem PR.head {w : World} {ao : Option Addr} {n cap : Nat} {rows : List RowI} (h : PR w (.slice ao n cap) rows) {t : Nat} (ht : t < rows.length) :
    ∃ g o, ao = some ⟨g, o, none⟩ ∧ g < w.heap.size ∧ w.cell? ⟨g, o + t, none⟩ = some (rowAt rows t).v := by
  obtain ⟨_, ao', cap', hv, _, _, _, hc⟩ := h.rd
  cases hv
  obtain ⟨g, o, rfl, hg, hcell⟩ := hc (by omega)
  exact ⟨g, o, rfl, hg, hcell t _ (rowAt_map ht)⟩
theorem PR.len {w : World} {ao : Option Addr} {n cap : Nat} {rows : List RowI} (h : PR w (.slice ao n cap) rows) : n = rows.length ∧ n ≤ cap ∧ cap ≤ maxLen := by
  obtain ⟨_, ao', cap', hv, h1, h2, _, _⟩ := h.rd
  cases hv
  exact ⟨rfl, h1, h2⟩
theorem PR.thread {w : World} {u : Value} {rows : List RowI} (h : PR w u rows) {t : Nat} (ht : t < rows.length) :
    ∃ ao cap, (rowAt rows t).v = .slice ao (lenAt rows t) cap ∧ lenAt rows t ≤ cap ∧ cap ≤ maxLen ∧ (0 < lenAt rows t → ∃ g o, ao = some ⟨g, o, none⟩ ∧ g < w.heap.size ∧ ∀ k, k < lenAt rows t * 5 → w.cell? ⟨g, o + k, none⟩ = some (.int .i64 (numAt rows t k))) := by
  obtain ⟨hl, ao, cap, hv, h1, h2, _, hc⟩ := h.row t ht
  refine ⟨ao, cap, hv, h1, h2, fun h0 => ?_⟩
  obtain ⟨g, o, rfl, hg, hcell⟩ := hc h0
  refine ⟨g, o, rfl, hg, fun k hk => hcell k _ ?_⟩
  rw [vals_len] at hl
  rw [numAt, vals, List.getElem?_map, List.getElem?_eq_getElem (by rw [hl]; exact hk)]
  rfl
end Go.Proofs.YtjpddfnkamahfaaDoor.Line
