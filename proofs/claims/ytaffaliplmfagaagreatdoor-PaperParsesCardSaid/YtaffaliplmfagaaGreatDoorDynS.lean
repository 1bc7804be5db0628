/-
  XDyn in a world that the operations may write: reads that lie outside what is written, writes in their order.
-/
import Derived.Test.YtaffaliplmfagaaGreatDoorDyn
set_option linter.unusedVariables false
namespace Go.Proofs.YtaffaliplmfagaaGreatDoor.Calm
open Go Go.Proofs.YtaffaliplmfagaaGreatDoor.Own

section
variable {P : Program} {ops : Array Oper} {md : Region.Mode} {Q' : Exit → Act → World → Prop} {S : Nat → Prop}

structure KS (S : Nat → Prop) (W : World) where
  w : World
  h : Kept S W w
instance (S : Nat → Prop) (w : World) : Inhabited (KS S w) := ⟨⟨w, Kept.refl S w⟩⟩
theorem KS.old {w : World} {a : Addr} {v : Value} (h : w.cell? a = some v) (hb : a.block < w.heap.size) (hS : ¬ S a.block) : ∀ p : KS S w, p.w.cell? a = some v := fun p => (p.h.cell hb hS).trans h
theorem kS_trans {w w1 w2 : World} (h : Kept S w w1) (h2 : Kept S w1 w2) : Kept S w w2 := h.trans h2 (fun _ _ f => f)

/-- The same value in every later world. -/
def steadyS (S : Nat → Prop) (P : Program) (ops : Array Oper) (w : World) (o : Oper) (v : Value) (a : Act) : Prop :=
  (Region.wanted o (yielded ops a.tmps) = true ∧ ∀ w', Kept S w w' → ((execOp a.eval o).run P w' = .ok (.value v) w' ∨ ((execOp a.eval o).run P w' = .ok .skip w' ∧ v = undef))) ∨
  (Region.wanted o (yielded ops a.tmps) = false ∧ v = undef)
theorem steadyS.mono {w w1 : World} {o : Oper} {v : Value} {a : Act} (h : steadyS S P ops w o v a) (hk : Kept S w w1) : steadyS S P ops w1 o v a := by
  rcases h with ⟨h1, h2⟩ | h
  · exact .inl ⟨h1, fun w' hw => h2 w' (kS_trans hk hw)⟩
  · exact .inr h
theorem steadyS_put {w : World} {o : Oper} {v : Value} {a : Act} {d : Option Tmp} {u : Value} (he : execOp (a.put d u).eval o = execOp a.eval o) (hw : Region.wanted o (yielded ops (a.put d u).tmps) = Region.wanted o (yielded ops a.tmps)) : steadyS S P ops w o v (a.put d u) ↔ steadyS S P ops w o v a := by
  unfold steadyS
  rw [he, hw]

/-- The walk along a list of operations' numbers. -/
def dynS (S : Nat → Prop) (P : Program) (ops : Array Oper) (Q' : Exit → Act → World → Prop) : List Nat → Act → World → Prop
  | [], a, w => Q' .normal a w
  | i :: r, a, w => match ops[i]? with
    | none => False
    | some o => if isRead o = true then ∃ v, steadyS S P ops w o v a ∧ dynS S P ops Q' r (a.put o.dst v) w
      else callG P ops o a w fun v w2 => Kept S w w2 ∧ dynS S P ops Q' r (a.put o.dst v) w2

theorem dynS_pull_read {j : Nat} {oj : Oper} {post : List Nat} (hj : ops[j]? = some oj) (hr : isRead oj = true) {w : World} :
    ∀ (pre : List Nat) (a : Act), (∀ p ∈ pre, Easy ops oj p) → dynS S P ops Q' (pre ++ j :: post) a w → ∃ v, steadyS S P ops w oj v a ∧ dynS S P ops Q' (pre ++ post) (a.put oj.dst v) w
  | [], a, _, h => by
    rw [List.nil_append] at h ⊢
    unfold dynS at h
    simpa only [hj, hr, if_true] using h
  | p :: pre, a, he, h => by
    obtain ⟨o, ho, hro, hap⟩ := he p (by simp)
    obtain ⟨h1, h2, h3⟩ := Oper.apart_spec hap
    rw [List.cons_append] at h
    unfold dynS at h
    simp only [ho, hro, if_true] at h
    obtain ⟨vp, hs, hd⟩ := h
    obtain ⟨v, hv, hd2⟩ := dynS_pull_read hj hr pre _ (fun q hq => he q (by simp [hq])) hd
    have hv2 := (steadyS_put (execOp_put oj (read_sel hr) a o.dst vp h1) (wanted_put oj a o.dst vp h1)).1 hv
    refine ⟨v, hv2, ?_⟩
    rw [List.cons_append]
    unfold dynS
    simp only [ho, hro, if_true]
    refine ⟨vp, (steadyS_put (execOp_put o (read_sel hro) a oj.dst v h3) (wanted_put o a oj.dst v h3)).2 hs, ?_⟩
    rw [← Act.put_comm a vp v h2]
    exact hd2

theorem dynS_pull_call {j : Nat} {oj : Oper} {post : List Nat} (hj : ops[j]? = some oj) (hr : isRead oj = false) (hsel : ∀ cs b, oj.op ≠ .select cs b) {w : World} :
    ∀ (pre : List Nat) (a : Act), (∀ p ∈ pre, Easy ops oj p) → dynS S P ops Q' (pre ++ j :: post) a w → callG P ops oj a w fun v w2 => Kept S w w2 ∧ dynS S P ops Q' (pre ++ post) (a.put oj.dst v) w2
  | [], a, _, h => by
    rw [List.nil_append] at h ⊢
    unfold dynS at h
    simp only [hj, hr, Bool.false_eq_true, if_false] at h
    exact h
  | p :: pre, a, he, h => by
    obtain ⟨o, ho, hro, hap⟩ := he p (by simp)
    obtain ⟨h1, h2, h3⟩ := Oper.apart_spec hap
    rw [List.cons_append] at h
    unfold dynS at h
    simp only [ho, hro, if_true] at h
    obtain ⟨vp, hs, hd⟩ := h
    have hc := dynS_pull_call hj hr hsel pre _ (fun q hq => he q (by simp [hq])) hd
    rw [callG_put (execOp_put oj hsel a o.dst vp h1) (wanted_put oj a o.dst vp h1)] at hc
    refine hc.mono fun v w2 ⟨hk, hd2⟩ => ⟨hk, ?_⟩
    rw [List.cons_append]
    unfold dynS
    simp only [ho, hro, if_true]
    refine ⟨vp, ((steadyS_put (execOp_put o (read_sel hro) a oj.dst v h3) (wanted_put o a oj.dst v h3)).2 hs).mono hk, ?_⟩
    rw [← Act.put_comm a vp v h2]
    exact hd2

theorem simS {M : List Nat} (hg : Good md ops M) : ∀ (n : Nat) (rem : List Nat) (listed : Array Bool) (a : Act) (w : World), rem.length = n → Shut md ops listed →
    (∀ i, i < ops.size → (listed.getD i true = false ↔ i ∈ rem)) → rem.Pairwise (fun p j => pairB md ops M p j = true ∧ p ≠ j) → (∀ i ∈ rem, i < ops.size) →
    dynS S P ops Q' rem a w → wpAny P md ops Q' n listed a w := by
  intro n
  induction n with
  | zero =>
    intro rem listed a w hn hs hl hpw hsz h
    obtain rfl : rem = [] := List.eq_nil_of_length_eq_zero hn
    refine ⟨List.eq_nil_iff_forall_not_mem.2 fun j hj => ?_, h⟩
    obtain ⟨h1, o, ho, _⟩ := mem_ready.1 hj
    have := (hl j (Array.getElem?_eq_some_iff.1 ho).1).1 h1
    cases this
  | succ n ih =>
    intro rem listed a w hn hs hl hpw hsz h
    refine ⟨fun h0 => ?_, fun j hj => ?_⟩
    · exfalso
      cases rem with
      | nil => simp at hn
      | cons i r =>
        have hi := hsz i (by simp)
        have ho := Array.getElem?_eq_getElem hi
        have hr : i ∈ Region.ready md ops listed := by
          refine mem_ready.2 ⟨(hl i hi).2 (by simp), _, ho, fun e he hb => ?_⟩
          have hd : e.on ∈ deps md ops[i] := mem_deps.2 ⟨e, he, hb, rfl⟩
          have hlt := hg.below i _ ho _ hd
          cases hx : listed.getD e.on false with
          | true => rfl
          | false =>
            exfalso
            have hm := (hl e.on (by omega)).1 (getD_in (by rw [hs.size]; omega) hx)
            have hmr : e.on ∈ r := by
              rcases List.mem_cons.1 hm with h | h
              · omega
              · exact h
            have hpr := ((List.pairwise_cons.1 hpw).1 _ hmr).1
            have ho2 := Array.getElem?_eq_getElem (hsz _ hm)
            simp only [pairB, ho, ho2, Bool.and_eq_true, Bool.not_eq_true'] at hpr
            have := hpr.1
            simp only [List.contains_eq_mem, decide_eq_false_iff_not] at this
            exact this hd
        rw [h0] at hr
        cases hr
    · obtain ⟨h1, oj, hoj, hall⟩ := mem_ready.1 hj
      have hjs := (Array.getElem?_eq_some_iff.1 hoj).1
      have hjr := (hl j hjs).1 h1
      obtain ⟨pre, post, rfl⟩ := List.append_of_mem hjr
      have hpa := List.pairwise_append.1 hpw
      have hpc := List.pairwise_cons.1 hpa.2.1
      have heasy : ∀ p ∈ pre, Easy ops oj p := fun p hp => by
        have hps := hsz p (by simp [hp])
        have ho := Array.getElem?_eq_getElem hps
        have hpr := (hpa.2.2 p hp j (by simp)).1
        simp only [pairB, ho, hoj, Bool.and_eq_true, Bool.or_eq_true] at hpr
        rcases hpr.2 with h | ⟨h2, h3⟩
        · have h4 := anc_listed hg hs hps j oj hoj hall h
          have h5 := (hl p hps).2 (by simp [hp])
          rw [getD_both h5] at h4
          cases h4
        · exact ⟨_, ho, h2, h3⟩
      have hjp : j ∉ pre ++ post := by
        intro hm
        rcases List.mem_append.1 hm with hm | hm
        · exact (hpa.2.2 j hm j (by simp)).2 rfl
        · exact (hpc.1 j hm).2 rfl
      have hs' : Shut md ops (listed.setIfInBounds j true) := ⟨by simpa using hs.size, fun k ok hk hlk e he hb => by
        by_cases hkj : k = j
        · subst hkj
          obtain rfl : ok = oj := Option.some.inj (hk.symm.trans hoj)
          exact getD_set_true (hall e he hb)
        · rw [getD_set_ne false (Ne.symm hkj)] at hlk
          exact getD_set_true (hs.closed k ok hk hlk e he hb)⟩
      have hl' : ∀ i, i < ops.size → ((listed.setIfInBounds j true).getD i true = false ↔ i ∈ pre ++ post) := fun i hi => by
        by_cases hij : i = j
        · subst hij
          refine ⟨fun h => ?_, fun h => absurd h hjp⟩
          have : i < listed.size := by rw [hs.size]; exact hi
          simp [this] at h
        · rw [getD_set_ne true (Ne.symm hij), hl i hi]
          simp [hij]
      have hpw' : (pre ++ post).Pairwise (fun p j => pairB md ops M p j = true ∧ p ≠ j) := List.pairwise_append.2 ⟨hpa.1, hpc.2, fun x hx y hy => hpa.2.2 x hx y (by simp [hy])⟩
      have hsz' : ∀ i ∈ pre ++ post, i < ops.size := fun i hi => hsz i (by
        rcases List.mem_append.1 hi with h | h <;> simp [h])
      have hn' : (pre ++ post).length = n := by simp at hn ⊢; omega
      have K : ∀ a' w', dynS S P ops Q' (pre ++ post) a' w' → wpAny P md ops Q' n (listed.setIfInBounds j true) a' w' := fun a' w' hd => ih _ _ a' w' hn' hs' hl' hpw' hsz' hd
      unfold wpOp
      simp only [hoj]
      cases hr : isRead oj with
      | true =>
        obtain ⟨v, hst, hd⟩ := dynS_pull_read hoj hr pre a heasy h
        rcases hst with ⟨hw, hv⟩ | ⟨hw, rfl⟩
        · rw [if_pos hw]
          refine .inl ?_
          unfold Oper.wp
          rcases hv w (Kept.refl S w) with e | ⟨e, rfl⟩
          · rw [e]; exact K _ _ hd
          · rw [e]; exact K _ _ hd
        · rw [if_neg (by simp [hw])]
          exact K _ _ hd
      | false =>
        have hc := dynS_pull_call hoj hr (fun cs b => hg.sel j oj cs b hoj) pre a heasy h
        rcases hc with ⟨hw, hc⟩ | ⟨hw, hc⟩
        · rw [if_pos hw]
          refine .inl ?_
          unfold Oper.wp
          unfold callW at hc
          split at hc <;> rename_i e
          · rw [e]; exact K _ _ hc.2
          · rw [e]; exact K _ _ hc.2
          · rw [e]
            exact hc.mono fun e w'' ⟨v, he, hk⟩ => by subst he; exact K _ _ hk.2
          · exact hc.elim
        · rw [if_neg (by simp [hw])]
          exact K _ _ hc.2


/-- The walk along π. -/
theorem wp_region_dynS {id : Nat} {Q : Exit → Act → World → Prop} {a : Act} {w : World} {l : List Oper} (S : Nat → Prop) (π : List Nat) (hm : P.follows .mixedOrders = true) (hB : dynB .any l.toArray (masks .any l []) π = true)
    (h : dynS S P l.toArray Q π a w.drew) : (Code.region id l.toArray true).wp P Q a w := by
  have hg := good_of hB
  simp only [dynB, Bool.and_eq_true, List.all_eq_true, List.mem_range, decide_eq_true_eq] at hB
  obtain ⟨⟨⟨⟨⟨⟨h1, h2⟩, h3⟩, h4⟩, h5⟩, h6⟩, h7⟩ := hB
  refine wp_region_any hm ?_
  refine simS hg _ π _ a _ h7 ⟨by simp, fun j oj _ hl => (by rw [getD_replicate_false] at hl; cases hl)⟩ (fun i hi => ?_) (pairsB_spec h4) (fun i hi => h5 i hi) h
  refine ⟨fun _ => by simpa using h6 i hi, fun _ => getD_in (by simpa using hi) (getD_replicate_false _ _)⟩

/-- Some that read, in the order of the list. -/
theorem dynS_reads {l : List Oper} {w : World} {rest : List Nat} : ∀ (π : List Nat) (a : Act), readsB l π = true →
    wpQuiet P l.toArray (fun w' => ∃ p : KS S w, w' = p.w) (fun a' => dynS S P l.toArray Q' rest a' w) (sel l π) a → dynS S P l.toArray Q' (π ++ rest) a w
  | [], a, _, h => h
  | i :: π, a, hr, h => by
    simp only [readsB, List.all_cons, Bool.and_eq_true] at hr
    cases ho : l[i]? with
    | none => rw [ho] at hr; cases hr.1
    | some o =>
      rw [ho] at hr
      have ho2 : l.toArray[i]? = some o := by simpa using ho
      rw [List.cons_append]
      simp only [dynS, ho2, isRead_of hr.1, if_true]
      have hs : sel l (i :: π) = o :: sel l π := by simp [sel, ho]
      rw [hs] at h
      unfold wpQuiet at h
      by_cases hw : Region.wanted o (yielded l.toArray a.tmps) = true
      · rw [if_pos hw] at h
        obtain ⟨v, h1, h2⟩ := h
        refine ⟨v, .inl ⟨hw, fun w' hk => ?_⟩, dynS_reads π _ (by simpa [readsB] using hr.2) h2⟩
        have h3 := h1 w' ⟨⟨w', hk⟩, rfl⟩
        unfold Oper.quietAt at h3
        cases hx : (execOp a.eval o).run P w' with
        | ok x w'' =>
          rw [hx] at h3
          cases x <;> simp only [Oper.quietUpon] at h3
          case value u => exact .inl (by rw [h3.1, h3.2])
          case skip => exact .inr ⟨by rw [h3.1], h3.2⟩
          case enter f args => exact absurd hx (noEnter hr.1 _ _ _ _ _)
        | halt x w'' => rw [hx] at h3; simp only [Oper.quietUpon] at h3
      · rw [if_neg hw] at h
        exact ⟨undef, .inr ⟨by simpa using hw, rfl⟩, dynS_reads π _ (by simpa [readsB] using hr.2) h⟩
/-- A nil check of a pointer. -/
theorem dynS_ptr {l : List Oper} {w : World} {i : Nat} {r : List Nat} {a : Act} {o : Oper} (x : Operand) (ad : Addr) (ho : l[i]? = some o) (hop : o.op = .nilCheck x) (hg : o.guard = none) (hx : a.eval x = .pointer (some ad))
    (h : dynS S P l.toArray Q' r (a.put o.dst (.pointer (some ad))) w) : dynS S P l.toArray Q' (i :: r) a w := by
  have ho2 : l.toArray[i]? = some o := by simpa using ho
  have hr : isRead o = true := by unfold isRead; rw [hop]
  simp only [dynS, ho2, hr, if_true]
  refine ⟨_, .inl ⟨by simp [Region.wanted, hg], fun w' _ => .inl ?_⟩, h⟩
  unfold execOp
  rw [hop]
  simp only [hx]
  rfl
/-- One that writes or makes memory. -/
theorem dynS_act {l : List Oper} {w : World} {i : Nat} {r : List Nat} {a : Act} {o : Oper} (ho : l[i]? = some o) (hr : isRead o = false) (hg : o.guard = none)
    (h : callW P o a w fun v w2 => Kept S w w2 ∧ dynS S P l.toArray Q' r (a.put o.dst v) w2) : dynS S P l.toArray Q' (i :: r) a w := by
  have ho2 : l.toArray[i]? = some o := by simpa using ho
  simp only [dynS, ho2, hr, Bool.false_eq_true, if_false]
  exact .inl ⟨by simp [Region.wanted, hg], h⟩
theorem dynS_nil {w : World} {a : Act} (h : Q' .normal a w) : dynS S P ops Q' [] a w := h
end
end Go.Proofs.YtaffaliplmfagaaGreatDoor.Calm
