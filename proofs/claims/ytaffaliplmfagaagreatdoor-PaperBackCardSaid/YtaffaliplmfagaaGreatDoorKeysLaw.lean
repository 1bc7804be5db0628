/-
  Keys in their order, plainly: which comes first; one more in its place.
-/
import Derived.IntWalk
set_option linter.unusedVariables false
namespace Go.Proofs.YtaffaliplmfagaaGreatDoor.Line
/-- Three numbers. -/
abbrev K3 := Int × Int × Int
def lessB (k i j k2 i2 j2 : Int) : Bool := if k ≠ k2 then decide (k < k2) else if i ≠ i2 then decide (i < i2) else decide (j < j2)
def lt3 (a b : K3) : Bool := lessB a.1 a.2.1 a.2.2 b.1 b.2.1 b.2.2
theorem lt3_iff (a b : K3) : lt3 a b = true ↔ a.1 < b.1 ∨ (a.1 = b.1 ∧ (a.2.1 < b.2.1 ∨ (a.2.1 = b.2.1 ∧ a.2.2 < b.2.2))) := by
  unfold lt3 lessB
  split
  · simp only [decide_eq_true_eq]; omega
  · split
    · simp only [decide_eq_true_eq]; omega
    · simp only [decide_eq_true_eq]; omega
theorem eq3 (a b : K3) : a = b ↔ a.1 = b.1 ∧ a.2.1 = b.2.1 ∧ a.2.2 = b.2.2 := by
  obtain ⟨x, y, z⟩ := a
  obtain ⟨x2, y2, z2⟩ := b
  simp [Prod.mk.injEq]
theorem lt3_irr (a : K3) : lt3 a a = false := by
  cases h : lt3 a a
  · rfl
  · rw [lt3_iff] at h; omega
theorem lt3_trans {a b c : K3} (h : lt3 a b = true) (h' : lt3 b c = true) : lt3 a c = true := by
  rw [lt3_iff] at *; omega
theorem lt3_asym {a b : K3} (h : lt3 a b = true) : lt3 b a = false := by
  cases h' : lt3 b a
  · rfl
  · rw [lt3_iff] at h h'; omega
theorem lt3_total {a b : K3} (h : a ≠ b) (h' : lt3 a b = false) : lt3 b a = true := by
  rw [lt3_iff]
  have h1 : ¬ lt3 a b = true := by simp [h']
  rw [lt3_iff] at h1
  rw [ne_eq, eq3] at h
  omega

/-- One more, in its place. -/
def ins (k : K3) : List K3 → List K3
  | [] => [k]
  | x :: r => if lt3 k x = true then k :: x :: r else x :: ins k r
def addC (l : List K3) (k : K3) : List K3 := if k ∈ l then l else ins k l
/-- As the reference does it: whether it was put already. -/
def addR (k : K3) : Bool → List K3 → List K3
  | p, [] => if p then [] else [k]
  | p, x :: r => if (!p && lt3 k x) = true then k :: x :: addR k true r else x :: addR k (p || x == k) r
theorem addR_true (k : K3) : ∀ l, addR k true l = l
  | [] => rfl
  | x :: r => by rw [addR]; simp [addR_true k r]
abbrev Rising (l : List K3) : Prop := l.Pairwise (fun a b => lt3 a b = true)
theorem mem_ins (k x : K3) : ∀ l, x ∈ ins k l ↔ x = k ∨ x ∈ l
  | [] => by simp [ins]
  | y :: r => by
    rw [ins]
    split
    · simp
    · simp only [List.mem_cons, mem_ins k x r]
      constructor
      · rintro (h | h | h) <;> simp [h]
      · rintro (h | h | h) <;> simp [h]
theorem rising_ins (k : K3) : ∀ l, Rising l → k ∉ l → Rising (ins k l)
  | [], _, _ => by simp [ins, Rising]
  | y :: r, h, hn => by
    have h1 := List.pairwise_cons.1 h
    rw [ins]
    split
    · rename_i hk
      refine List.pairwise_cons.2 ⟨fun z hz => ?_, h⟩
      rcases List.mem_cons.1 hz with rfl | hz
      · exact hk
      · exact lt3_trans hk (h1.1 z hz)
    · rename_i hk
      refine List.pairwise_cons.2 ⟨fun z hz => ?_, rising_ins k r h1.2 (fun hm => hn (by simp [hm]))⟩
      rcases (mem_ins k z r).1 hz with rfl | hz
      · exact lt3_total (fun e => hn (by simp [e])) (by simpa using hk)
      · exact h1.1 z hz
theorem rising_add {l : List K3} (h : Rising l) (k : K3) : Rising (addC l k) := by
  unfold addC
  split
  · exact h
  · rename_i hn; exact rising_ins k l h hn
theorem mem_add (l : List K3) (k x : K3) : x ∈ addC l k ↔ x = k ∨ x ∈ l := by
  unfold addC
  split
  · rename_i hm
    constructor
    · exact .inr
    · rintro (rfl | h)
      · exact hm
      · exact h
  · exact mem_ins k x l
theorem addR_eq (k : K3) : ∀ l, Rising l → addR k false l = addC l k
  | [], _ => by simp [addR, addC, ins]
  | y :: r, h => by
    have h1 := List.pairwise_cons.1 h
    have ih := addR_eq k r h1.2
    rw [addR]
    simp only [Bool.not_false, Bool.true_and, Bool.false_or]
    by_cases hk : lt3 k y = true
    · have hnm : k ∉ y :: r := by
        intro hm
        rcases List.mem_cons.1 hm with rfl | hm
        · rw [lt3_irr] at hk; cases hk
        · have := lt3_asym (h1.1 k hm)
          rw [this] at hk; cases hk
      rw [if_pos hk, addR_true, addC, if_neg hnm, ins, if_pos hk]
    · rw [if_neg hk]
      by_cases he : y = k
      · subst he
        simp [addR_true, addC]
      · have hb : (y == k) = false := by simp [he]
        rw [hb, ih]
        unfold addC
        by_cases hm : k ∈ r
        · rw [if_pos hm, if_pos (by simp [hm])]
        · rw [if_neg hm, if_neg (by simp [hm]; exact fun e => he e.symm), ins, if_neg hk]
theorem rising_fold (l : List K3) : ∀ acc, Rising acc → Rising (l.foldl addC acc) := by
  induction l with
  | nil => exact fun _ h => h
  | cons x l ih => exact fun acc h => ih _ (rising_add h x)
theorem mem_fold (l : List K3) (x : K3) : ∀ acc, x ∈ l.foldl addC acc ↔ x ∈ acc ∨ x ∈ l := by
  induction l with
  | nil => simp
  | cons y l ih =>
    intro acc
    rw [List.foldl_cons, ih, mem_add, List.mem_cons]
    constructor
    · rintro ((h | h) | h) <;> simp [h]
    · rintro (h | h | h) <;> simp [h]
theorem rising_at {l : List K3} (h : Rising l) {i : Nat} {a b : K3} (ha : l[i]? = some a) (hb : l[i + 1]? = some b) : lt3 a b = true := by
  obtain ⟨h1, rfl⟩ := List.getElem?_eq_some_iff.1 ha
  obtain ⟨h2, rfl⟩ := List.getElem?_eq_some_iff.1 hb
  exact List.pairwise_iff_getElem.1 h i (i + 1) h1 h2 (by omega)
theorem len_ins (k : K3) : ∀ l, (ins k l).length = l.length + 1
  | [] => rfl
  | x :: r => by
    rw [ins]
    split
    · rfl
    · simp [len_ins k r]
theorem len_add (l : List K3) (k : K3) : (addC l k).length ≤ l.length + 1 := by
  unfold addC
  split
  · omega
  · rw [len_ins]; omega
theorem len_fold (l : List K3) : ∀ acc, (l.foldl addC acc).length ≤ acc.length + l.length := by
  induction l with
  | nil => simp
  | cons x l ih =>
    intro acc
    have h1 := ih (addC acc x)
    have h2 := len_add acc x
    simp only [List.foldl_cons, List.length_cons]
    omega
end Go.Proofs.YtaffaliplmfagaaGreatDoor.Line
