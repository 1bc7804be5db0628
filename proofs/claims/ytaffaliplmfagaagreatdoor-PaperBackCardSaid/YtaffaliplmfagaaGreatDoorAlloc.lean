/-
  A statement whose order is open and that makes one block among its calls: one walk in the order of the text.
-/
import Derived.Test.YtaffaliplmfagaaGreatDoorCalm
namespace Go.Proofs.YtaffaliplmfagaaGreatDoor.Calm
open Go Go.Proofs.YtaffaliplmfagaaGreatDoor.Own

section
variable {P : Program} {ops : Array Oper} {md : Region.Mode} {R : Nat → Sem Next → Value → Prop}

/-- Operation number i yields v, by R. -/
def ynd (ops : Array Oper) (R : Nat → Sem Next → Value → Prop) (i : Nat) (o : Oper) (v : Value) (a : Act) : Prop :=
  (Region.wanted o (yielded ops a.tmps) = true ∧ R i (execOp a.eval o) v) ∨ (Region.wanted o (yielded ops a.tmps) = false ∧ v = undef)
def opR (ops : Array Oper) (R : Nat → Sem Next → Value → Prop) (i : Nat) (K : Act → Prop) (a : Act) : Prop :=
  match ops[i]? with
  | none => K a
  | some o => ∃ v, ynd ops R i o v a ∧ K (a.put o.dst v)
theorem opR_mono {i : Nat} {a : Act} {K K' : Act → Prop} (h : ∀ a, K a → K' a) (hh : opR ops R i K a) : opR ops R i K' a := by
  unfold opR at *
  split
  · rename_i ho; simp only [ho] at hh; exact h _ hh
  · rename_i o ho; simp only [ho] at hh; obtain ⟨v, h1, h2⟩ := hh; exact ⟨v, h1, h _ h2⟩
theorem ynd.opR {i : Nat} {o : Oper} {v : Value} {a : Act} (hi : ops[i]? = some o) (hy : ynd ops R i o v a) {K : Act → Prop} (h : K (a.put o.dst v)) : opR ops R i K a := by
  unfold Calm.opR
  simp only [hi]
  exact ⟨v, hy, h⟩
theorem ynd_put {i : Nat} {o : Oper} {v : Value} {a : Act} {d : Option Tmp} {u : Value} (he : execOp (a.put d u).eval o = execOp a.eval o) (hw : Region.wanted o (yielded ops (a.put d u).tmps) = Region.wanted o (yielded ops a.tmps)) : ynd ops R i o v (a.put d u) ↔ ynd ops R i o v a := by
  unfold ynd
  rw [he, hw]
theorem opR_put {i j : Nat} {oi oj : Oper} {v : Value} (hj : ops[j]? = some oj) (hap : oi.apart ops oj = true)
    (hsi : ∀ cs b, oi.op ≠ .select cs b) (hsj : ∀ cs b, oj.op ≠ .select cs b) {K : Act → Prop} {a : Act}
    (hy : ynd ops R i oi v a) (h : opR ops R j K (a.put oi.dst v)) : opR ops R j (fun a' => ynd ops R i oi v a' ∧ K (a'.put oi.dst v)) a := by
  obtain ⟨h1, h2, h3⟩ := Oper.apart_spec hap
  unfold opR at *
  simp only [hj] at *
  obtain ⟨u, hu, hn⟩ := h
  refine ⟨u, (ynd_put (execOp_put oj hsj a oi.dst v h1) (wanted_put oj a oi.dst v h1)).1 hu, (ynd_put (execOp_put oi hsi a oj.dst u h3) (wanted_put oi a oj.dst u h3)).2 hy, ?_⟩
  rw [← Act.put_comm a v u h2]
  exact hn

def headR (md : Region.Mode) (ops : Array Oper) (R : Nat → Sem Next → Value → Prop) (n : Nat) (L : Array Bool → Act → Prop) : Nat → Array Bool → Act → Prop
  | 0, listed, a => L listed a
  | f + 1, listed, a => Region.ready md ops listed ≠ [] ∧ ∀ i ∈ Region.ready md ops listed, i < n ∧ opR ops R i (headR md ops R n L f (listed.setIfInBounds i true)) a

theorem headR_first {n i : Nat} {oi : Oper} {v : Value} {L : Array Bool → Act → Prop} (hi : ops[i]? = some oi) (hsel : ∀ (j : Nat) (o : Oper) cs b, ops[j]? = some o → o.op ≠ .select cs b)
    (hs : Region.sinkB md ops n = true) (hc : Region.chainB md ops n = true) (hn : n < ops.size) (hin : i < n)
    (hdone : ∀ listed a, L listed a → ∀ j ∈ Region.ready md ops listed, n ≤ j) :
    ∀ (f : Nat) (listed : Array Bool) (a : Act), HeadInv md ops n listed →
      (∀ j oj, ops[j]? = some oj → j ≠ i → listed.getD j true = false → (∀ e ∈ oj.after, Region.binds md e = true → e.on ≠ i) → oi.apart ops oj = true) →
      i ∈ Region.ready md ops listed → ynd ops R i oi v a →
      headR md ops R n L f (listed.setIfInBounds i true) (a.put oi.dst v) → headR md ops R n L (f + 1) listed a := by
  intro f
  induction f with
  | zero =>
    intro listed a inv _ hr hy H
    have hun := (mem_ready.1 hr).1
    refine ⟨fun h => (by rw [h] at hr; cases hr), fun j hj => ?_⟩
    have hjn : j < n := by
      rcases Nat.lt_or_ge j n with h | h
      · exact h
      · exact absurd hj (tail_waits hs hc hn inv _ i rfl hin hun j h)
    refine ⟨hjn, ?_⟩
    by_cases hji : j = i
    · subst hji; exact hy.opR hi H
    · have := hdone _ _ H j (ready_mono hj hji)
      omega
  | succ f ih =>
    intro listed a inv hfree hr hy H
    have hun := (mem_ready.1 hr).1
    refine ⟨fun h => (by rw [h] at hr; cases hr), fun j hj => ?_⟩
    have hjn : j < n := by
      rcases Nat.lt_or_ge j n with h | h
      · exact h
      · exact absurd hj (tail_waits hs hc hn inv _ i rfl hin hun j h)
    refine ⟨hjn, ?_⟩
    by_cases hji : j = i
    · subst hji; exact hy.opR hi H
    · have h1 := (H.2 j (ready_mono hj hji)).2
      obtain ⟨hjun, oj, hoj, hall⟩ := mem_ready.1 hj
      have hnot : ∀ e ∈ oj.after, Region.binds md e = true → e.on ≠ i := fun e he hb heq => by
        have h1 := hall e he hb
        rw [heq, getD_both hun] at h1
        cases h1
      have h2 := opR_put hoj (hfree j oj hoj hji hjun hnot) (fun cs b => hsel i oi cs b hi) (fun cs b => hsel j oj cs b hoj) hy h1
      have hfree' : ∀ k ok, ops[k]? = some ok → k ≠ i → (listed.setIfInBounds j true).getD k true = false →
          (∀ e ∈ ok.after, Region.binds md e = true → e.on ≠ i) → oi.apart ops ok = true := fun k ok hk hki hun hno => by
        refine hfree k ok hk hki ?_ hno
        by_cases hjk : j = k
        · subst hjk; exact hjun
        · rw [getD_set_ne true hjk] at hun; exact hun
      refine opR_mono (fun a' h3 => ih (listed.setIfInBounds j true) a' (inv.set hj hjn) hfree' (ready_mono hr (Ne.symm hji)) h3.1 ?_) h2
      rw [Array.setIfInBounds_comm _ _ hji]
      exact h3.2

/-- The walk in the order of the text. -/
def lexR (ops : Array Oper) (R : Nat → Sem Next → Value → Prop) (Q : Act → Prop) : Nat → List Oper → Act → Prop
  | _, [], a => Q a
  | k, o :: rest, a => if Region.wanted o (yielded ops a.tmps) then ∃ v, R k (execOp a.eval o) v ∧ lexR ops R Q (k + 1) rest (a.put o.dst v) else lexR ops R Q (k + 1) rest (a.put o.dst undef)
theorem lexR_nil {Q : Act → Prop} {k : Nat} {a : Act} (h : Q a) : lexR ops R Q k [] a := h
theorem lexR_step {Q : Act → Prop} {k : Nat} {a : Act} {o : Oper} {rest : List Oper}
    (h : ∀ K : Act → Prop, (∀ a, lexR ops R Q (k + 1) rest a → K a) → if Region.wanted o (yielded ops a.tmps) then ∃ v, R k (execOp a.eval o) v ∧ K (a.put o.dst v) else K (a.put o.dst undef)) : lexR ops R Q k (o :: rest) a :=
  h _ (fun _ h => h)

theorem headR_lex {n g : Nat} {Lq : Act → Prop} (hsel : Region.noSelect ops = true) (hs : Region.sinkB md ops n = true) (hc : Region.chainB md ops n = true) (hn : n < ops.size) :
    ∀ (l : List Oper) (k : Nat) (listed : Array Bool) (a : Act), (∀ j, j < l.length → l[j]? = ops[k + j]?) → k + l.length = n → HeadInv md ops n listed → (∀ j, j < k → listed.getD j false = true) →
    Region.lexHead md ops g l.length k listed = true → lexR ops R Lq k l a →
    headR md ops R n (fun listed' a' => Region.seqB md ops g n listed' = true ∧ (∀ j, j < n → listed'.getD j false = true) ∧ Lq a') l.length listed a
  | [], k, listed, a, _, hk, _, hd, hB, h => by
    have : k = n := by simpa using hk
    subst this
    exact ⟨by simpa [Region.lexHead] using hB, hd, h⟩
  | o :: l, k, listed, a, hl, hk, inv, hd, hB, h => by
    have h0 : ops[k]? = some o := by simpa using (hl 0 (by simp)).symm
    simp only [List.length_cons, Region.lexHead, Bool.and_eq_true] at hB
    obtain ⟨⟨hr, hf⟩, hB'⟩ := hB
    have hkn : k < n := by simp only [List.length_cons] at hk; omega
    have hr' : k ∈ Region.ready md ops listed := by simpa using hr
    have hkl : k < listed.size := by rw [inv.size]; omega
    obtain ⟨v, hy, hK⟩ : ∃ v, ynd ops R k o v a ∧ lexR ops R Lq (k + 1) l (a.put o.dst v) := by
      unfold lexR at h
      by_cases hw : Region.wanted o (yielded ops a.tmps) = true
      · simp only [hw, if_true] at h
        obtain ⟨v, h1, h2⟩ := h
        exact ⟨v, .inl ⟨hw, h1⟩, h2⟩
      · simp only [hw] at h
        exact ⟨undef, .inr ⟨by simpa using hw, rfl⟩, h⟩
    refine headR_first h0 (Region.noSelect_spec hsel) hs hc hn hkn (fun listed' a' hL => seqB_ready hL.1) l.length listed a inv (Region.free_spec h0 hf) hr' hy
      (headR_lex hsel hs hc hn l (k + 1) _ _ (fun j hj => by have := hl (j + 1) (by simp; omega); simpa [Nat.add_assoc, Nat.add_comm 1 j] using this) (by simp only [List.length_cons] at hk; omega) (inv.set hr' hkn) (fun j hj => ?_) hB' hK)
    by_cases hjk : j = k
    · subst hjk; simp [hkl]
    · exact getD_set_true (hd j (by omega))

/-! ### one block made among them -/
variable {C : Bool → World → Prop}

/-- What is asked of an operation: the one that makes the block leads from the one class to the other; all others stay in theirs. -/
def allocR (P : Program) (C : Bool → World → Prop) (K : Nat) (i : Nat) (e : Sem Next) (v : Value) : Prop :=
  if i = K then ∀ w, C false w → ∃ w', (e.run P w = .ok (.value v) w' ∨ e.run P w = .ok .skip w' ∧ v = undef) ∧ C true w' else ∀ b w, C b w → Oper.quietUpon P (C b) w v (e.run P w)

theorem wpAny_of_headR {n g K : Nat} {oK : Oper} (hK : ops[K]? = some oK) (hg : oK.guard = none) {L : Array Bool → Act → Prop} {Q' : Exit → Act → World → Prop} (hL : ∀ listed a w, C (listed.getD K false) w → L listed a → wpAny P md ops Q' g listed a w) :
    ∀ (f : Nat) (listed : Array Bool) (a : Act) (w : World), listed.size = ops.size → C (listed.getD K false) w → headR md ops (allocR P C K) n L f listed a → wpAny P md ops Q' (f + g) listed a w
  | 0, listed, a, w, _, hw, h => by rw [Nat.zero_add]; exact hL _ _ _ hw h
  | f + 1, listed, a, w, hsz, hw, h => by
    rw [show f + 1 + g = (f + g) + 1 by omega]
    refine ⟨fun h0 => absurd h0 h.1, fun i hi => ?_⟩
    have h1 := (h.2 i hi).2
    have hun := (mem_ready.1 hi).1
    have hks : K < ops.size := (Array.getElem?_eq_some_iff.1 hK).1
    unfold opR at h1
    unfold wpOp
    split
    · rename_i ho
      simp only [ho] at h1
      have : i < ops.size := by
        rcases Nat.lt_or_ge i listed.size with h' | h'
        · omega
        · simp [Array.getElem?_eq_none h'] at hun
      rw [Array.getElem?_eq_getElem this] at ho
      cases ho
    · rename_i o ho
      simp only [ho] at h1
      obtain ⟨v, hy, hn⟩ := h1
      by_cases hiK : i = K
      · subst hiK
        obtain rfl : o = oK := Option.some.inj (ho.symm.trans hK)
        have hwt : Region.wanted o (yielded ops a.tmps) = true := by simp [Region.wanted, hg]
        rw [if_pos hwt]
        have hb : listed.getD i false = false := getD_both hun
        rw [hb] at hw
        rcases hy with ⟨_, hr⟩ | ⟨hw', _⟩
        · unfold allocR at hr
          rw [if_pos rfl] at hr
          obtain ⟨w', hrun, hC'⟩ := hr w hw
          refine .inl ?_
          unfold Oper.wp
          rcases hrun with hrun | ⟨hrun, rfl⟩
          all_goals
            rw [hrun]
            simp only [Oper.upon]
            refine wpAny_of_headR hK hg hL f _ _ w' (by simpa using hsz) ?_ hn
            rw [show (listed.setIfInBounds i true).getD i false = true by simp [show i < listed.size by omega]]
            exact hC'
        · rw [hwt] at hw'; cases hw'
      · have hsame : (listed.setIfInBounds i true).getD K false = listed.getD K false := getD_set_ne false hiK
        rcases hy with ⟨hwt, hr⟩ | ⟨hwt, rfl⟩
        · rw [if_pos hwt]
          unfold allocR at hr
          rw [if_neg hiK] at hr
          have h3 := hr _ w hw
          refine .inl ?_
          unfold Oper.wp
          generalize (execOp a.eval o).run P w = r at *
          cases r with
          | ok x w' =>
            cases x <;> simp only [Oper.quietUpon] at h3 <;> simp only [Oper.upon]
            case value u =>
              obtain ⟨e1, e2⟩ := h3
              rw [e1, e2]
              exact wpAny_of_headR hK hg hL f _ _ w (by simpa using hsz) (by rw [hsame]; exact hw) hn
            case skip =>
              obtain ⟨e1, e2⟩ := h3
              rw [e1, ← e2]
              exact wpAny_of_headR hK hg hL f _ _ w (by simpa using hsz) (by rw [hsame]; exact hw) hn
            case enter f' args =>
              obtain ⟨e1, hc⟩ := h3
              rw [e1]
              exact hc.mono fun e w'' ⟨he, hw''⟩ => by subst he; exact wpAny_of_headR hK hg hL f _ _ w'' (by simpa using hsz) (by rw [hsame]; exact hw'') hn
          | halt x w' => simp only [Oper.quietUpon] at h3
        · rw [if_neg (by simp [hwt])]
          exact wpAny_of_headR hK hg hL f _ _ w (by simpa using hsz) (by rw [hsame]; exact hw) hn

/-- The first n operations in the order of the text, number K makes a block; the others, in their one order, behind them. -/
theorem wp_region_alloc_tail {w : World} {id : Nat} {Q : Exit → Act → World → Prop} {a : Act} {l : List Oper} (n K : Nat) (oK : Oper) (hK : l[K]? = some oK) (hg : oK.guard = none) (hKn : K < n) (C : Bool → World → Prop) (hC : C false { w with drawn := w.drawn + 1 }) (hm : P.follows .mixedOrders = true) (hB : Region.lexTailB .any l.toArray n = true)
    (h : lexR l.toArray (allocR P C K) (fun a' => ∀ w', C true w' → wpList P l.toArray Q (l.drop n) a' w') 0 (l.take n) a) : (Code.region id l.toArray true).wp P Q a w := by
  simp only [Region.lexTailB, Bool.and_eq_true, decide_eq_true_eq] at hB
  obtain ⟨⟨⟨⟨hsel, hn⟩, hs⟩, hc⟩, hlex⟩ := hB
  have hn' : n < l.length := by simpa using hn
  have htl : (l.take n).length = n := by simp; omega
  have hdl : (l.drop n).length = l.toArray.size - n := by simp
  have inv0 : HeadInv .any l.toArray n (Array.replicate l.toArray.size false) :=
    ⟨by simp, fun j oj _ hl => (by rw [getD_replicate_false] at hl; cases hl), fun t _ ht => getD_in (by simpa using ht) (getD_replicate_false _ _)⟩
  have H := headR_lex (md := .any) (g := l.toArray.size - n) hsel hs hc hn (l.take n) 0 _ a (fun j hj => by
    have hj' : j < n := by rw [htl] at hj; exact hj
    simp [hj']) (by simpa using htl) inv0 (fun j hj => by omega) (by rw [htl]; exact hlex) h
  refine wp_region_any hm ?_
  have := wpAny_of_headR (Q' := Q) (g := l.toArray.size - n) (oK := oK) (K := K) (by simpa using hK) hg (fun listed a' w' hw' hL => by
    have := wpAny_of_seq (md := .any) (Q' := Q) (l.drop n) n listed a' w' (fun j => by simp [List.getElem?_drop]) (by rw [hdl]; exact hL.1) (hL.2.2 w' (by rw [hL.2.1 K hKn] at hw'; exact hw'))
    rwa [hdl] at this) _ _ _ { w with drawn := w.drawn + 1 } (by simp) (by rw [getD_replicate_false]; exact hC) H
  rw [htl, show n + (l.toArray.size - n) = l.toArray.size by omega] at this
  exact this
/-- One operation that does not make the block. -/
theorem lexA_step {Q : Act → Prop} {K k : Nat} {a : Act} {o : Oper} {rest : List Oper} (hk : (k == K) = false)
    (h : ∀ T : Act → Prop, (∀ a, lexR ops (allocR P C K) Q (k + 1) rest a → T a) → if Region.wanted o (yielded ops a.tmps) then ∃ v, (∀ b w, C b w → o.quietAt P a (C b) w v) ∧ T (a.put o.dst v) else T (a.put o.dst undef)) : lexR ops (allocR P C K) Q k (o :: rest) a := by
  refine lexR_step fun T hT => ?_
  have h1 := h T hT
  by_cases hw : Region.wanted o (yielded ops a.tmps) = true
  · simp only [hw, if_true] at h1 ⊢
    obtain ⟨v, h2, h3⟩ := h1
    refine ⟨v, ?_, h3⟩
    unfold allocR
    rw [if_neg (by simpa using hk)]
    exact h2
  · simp only [hw] at h1 ⊢
    exact h1
/-- The one that makes it. -/
theorem lexA_alloc {Q : Act → Prop} {K k : Nat} {a : Act} {o : Oper} {rest : List Oper} (hk : k = K) (hg : o.guard = none) (v : Value) (hv : ∀ w, C false w → ∃ w', (execOp a.eval o).run P w = .ok (.value v) w' ∧ C true w')
    (h : lexR ops (allocR P C K) Q (k + 1) rest (a.put o.dst v)) : lexR ops (allocR P C K) Q k (o :: rest) a := by
  refine lexR_step fun T hT => ?_
  rw [if_pos (by simp [Region.wanted, hg])]
  refine ⟨v, ?_, hT _ h⟩
  unfold allocR
  rw [if_pos hk]
  exact fun w hw => by
    obtain ⟨w', h1, h2⟩ := hv w hw
    exact ⟨w', .inl h1, h2⟩
/-- The one that turns the world and yields nothing. -/
theorem lexA_skip {Q : Act → Prop} {K k : Nat} {a : Act} {o : Oper} {rest : List Oper} (hk : k = K) (hg : o.guard = none) (hv : ∀ w, C false w → ∃ w', (execOp a.eval o).run P w = .ok .skip w' ∧ C true w')
    (h : lexR ops (allocR P C K) Q (k + 1) rest (a.put o.dst undef)) : lexR ops (allocR P C K) Q k (o :: rest) a := by
  refine lexR_step fun T hT => ?_
  rw [if_pos (by simp [Region.wanted, hg])]
  refine ⟨undef, ?_, hT _ h⟩
  unfold allocR
  rw [if_pos hk]
  exact fun w hw => by
    obtain ⟨w', h1, h2⟩ := hv w hw
    exact ⟨w', .inr ⟨h1, rfl⟩, h2⟩
/-- Two worlds, by which of two times it is. -/
def two (w0 w1 : World) (b : Bool) : World := bif b then w1 else w0
theorem two_cell {w0 w1 : World} {a : Addr} {v : Value} (h : w0.cell? a = some v) (hk : Kept No w0 w1) (hb : a.block < w0.heap.size) : ∀ b, (two w0 w1 b).cell? a = some v := fun b => by
  cases b
  · exact h
  · exact (hk.cell hb id).trans h
abbrev Drawn (w0 w1 : World) (b : Bool) (w' : World) : Prop := ∃ n, w' = (two w0 w1 b).drewN n
end
end Go.Proofs.YtaffaliplmfagaaGreatDoor.Calm
