/-
  XDyn, with a last operation that waits for all others and may do what it will.
-/
import Derived.Test.YtaffaliplmfagaaGreatDoorDyn
set_option linter.unusedVariables false
namespace Go.Proofs.YtaffaliplmfagaaGreatDoor.Calm
open Go Go.Proofs.YtaffaliplmfagaaGreatDoor.Own

section
variable {P : Program} {ops : Array Oper} {md : Region.Mode} {Q' : Exit → Act → World → Prop}

theorem simT {M : List Nat} (hg : Good md ops M) {L : Nat} {oL : Oper} (hL : ops[L]? = some oL) (hLs : L + 1 = ops.size) (hanc : ∀ p, p < L → anc M p L = true)
    (hfin : Region.seqB md ops 1 L ((Array.replicate ops.size true).setIfInBounds L false) = true) : ∀ (n : Nat) (rem : List Nat) (listed : Array Bool) (a : Act) (w : World), rem.length = n → Shut md ops listed →
    (∀ i, i < ops.size → (listed.getD i true = false ↔ i ∈ rem ∨ i = L)) → rem.Pairwise (fun p j => pairB md ops M p j = true ∧ p ≠ j) → (∀ i ∈ rem, i < L) →
    dyn P ops (fun _ a w => wpList P ops Q' [oL] a w) rem a w → wpAny P md ops Q' (n + 1) listed a w := by
  intro n
  induction n with
  | zero =>
    intro rem listed a w hn hs hl hpw hsz h
    obtain rfl : rem = [] := List.eq_nil_of_length_eq_zero hn
    have he : listed = (Array.replicate ops.size true).setIfInBounds L false := by
      refine Array.ext (by simpa using hs.size) fun i h1 h2 => ?_
      have hi : i < ops.size := by rw [← hs.size]; exact h1
      have := hl i hi
      simp only [List.not_mem_nil, false_or] at this
      rw [Array.getD_eq_getD_getElem?, Array.getElem?_eq_getElem h1, Option.getD_some] at this
      rw [Array.getElem_setIfInBounds (by simpa using hi)]
      by_cases hLi : L = i
      · rw [if_pos hLi]; exact this.2 hLi.symm
      · rw [if_neg hLi, Array.getElem_replicate]
        cases hx : listed[i] with
        | true => rfl
        | false => exact absurd (this.1 hx).symm hLi
    subst he
    refine wpAny_of_seq [oL] L _ a w (fun j => ?_) hfin (h w (Kept.refl No w))
    cases j with
    | zero => simpa using hL.symm
    | succ j => rw [Array.getElem?_eq_none (by omega)]; rfl
  | succ n ih =>
    intro rem listed a w hn hs hl hpw hsz h
    refine ⟨fun h0 => ?_, fun j hj => ?_⟩
    · exfalso
      cases rem with
      | nil => simp at hn
      | cons i r =>
        have hi := hsz i (by simp)
        have hi2 : i < ops.size := by omega
        have ho := Array.getElem?_eq_getElem hi2
        have hr : i ∈ Region.ready md ops listed := by
          refine mem_ready.2 ⟨(hl i hi2).2 (by simp), _, ho, fun e he hb => ?_⟩
          have hd : e.on ∈ deps md ops[i] := mem_deps.2 ⟨e, he, hb, rfl⟩
          have hlt := hg.below i _ ho _ hd
          cases hx : listed.getD e.on false with
          | true => rfl
          | false =>
            exfalso
            have hm := (hl e.on (by omega)).1 (getD_in (by rw [hs.size]; omega) hx)
            have hmr : e.on ∈ r := by
              rcases hm with hm | hm
              · rcases List.mem_cons.1 hm with h | h
                · omega
                · exact h
              · omega
            have hpr := ((List.pairwise_cons.1 hpw).1 _ hmr).1
            have ho2 := Array.getElem?_eq_getElem (show e.on < ops.size by omega)
            simp only [pairB, ho, ho2, Bool.and_eq_true, Bool.not_eq_true'] at hpr
            have := hpr.1
            simp only [List.contains_eq_mem, decide_eq_false_iff_not] at this
            exact this hd
        rw [h0] at hr
        cases hr
    · obtain ⟨h1, oj, hoj, hall⟩ := mem_ready.1 hj
      have hjs := (Array.getElem?_eq_some_iff.1 hoj).1
      have hjL : j ≠ L := by
        rintro rfl
        cases rem with
        | nil => simp at hn
        | cons i r =>
          have hi := hsz i (by simp)
          have h4 := anc_listed hg hs (show i < ops.size by omega) j oj hoj hall (hanc i hi)
          have h5 := (hl i (by omega)).2 (by simp)
          rw [getD_both h5] at h4
          cases h4
      have hjr := ((hl j hjs).1 h1).resolve_right hjL
      obtain ⟨pre, post, rfl⟩ := List.append_of_mem hjr
      have hpa := List.pairwise_append.1 hpw
      have hpc := List.pairwise_cons.1 hpa.2.1
      have heasy : ∀ p ∈ pre, Easy ops oj p := fun p hp => by
        have hps : p < ops.size := by have := hsz p (by simp [hp]); omega
        have ho := Array.getElem?_eq_getElem hps
        have hpr := (hpa.2.2 p hp j (by simp)).1
        simp only [pairB, ho, hoj, Bool.and_eq_true, Bool.or_eq_true] at hpr
        rcases hpr.2 with h | ⟨h2, h3⟩
        · have h4 := anc_listed hg hs hps j oj hoj hall h
          have h5 := (hl p hps).2 (by simp [hp])
          rw [getD_both h5] at h4
          cases h4
        · exact ⟨_, ho, h2, h3⟩
      have hjp : j ∉ pre ++ post := by
        intro hm
        rcases List.mem_append.1 hm with hm | hm
        · exact (hpa.2.2 j hm j (by simp)).2 rfl
        · exact (hpc.1 j hm).2 rfl
      have hs' : Shut md ops (listed.setIfInBounds j true) := ⟨by simpa using hs.size, fun k ok hk hlk e he hb => by
        by_cases hkj : k = j
        · subst hkj
          obtain rfl : ok = oj := Option.some.inj (hk.symm.trans hoj)
          exact getD_set_true (hall e he hb)
        · rw [getD_set_ne false (Ne.symm hkj)] at hlk
          exact getD_set_true (hs.closed k ok hk hlk e he hb)⟩
      have hl' : ∀ i, i < ops.size → ((listed.setIfInBounds j true).getD i true = false ↔ i ∈ pre ++ post ∨ i = L) := fun i hi => by
        by_cases hij : i = j
        · subst hij
          refine ⟨fun h => ?_, fun h => h.elim (fun h => absurd h hjp) (fun h => absurd h hjL)⟩
          have : i < listed.size := by rw [hs.size]; exact hi
          simp [this] at h
        · rw [getD_set_ne true (Ne.symm hij), hl i hi]
          simp [hij]
      have hpw' : (pre ++ post).Pairwise (fun p j => pairB md ops M p j = true ∧ p ≠ j) := List.pairwise_append.2 ⟨hpa.1, hpc.2, fun x hx y hy => hpa.2.2 x hx y (by simp [hy])⟩
      have hsz' : ∀ i ∈ pre ++ post, i < L := fun i hi => hsz i (by
        rcases List.mem_append.1 hi with h | h <;> simp [h])
      have hn' : (pre ++ post).length = n := by simp at hn ⊢; omega
      have K : ∀ a' w', dyn P ops (fun _ a w => wpList P ops Q' [oL] a w) (pre ++ post) a' w' → wpAny P md ops Q' (n + 1) (listed.setIfInBounds j true) a' w' := fun a' w' hd => ih _ _ a' w' hn' hs' hl' hpw' hsz' hd
      unfold wpOp
      simp only [hoj]
      cases hr : isRead oj with
      | true =>
        obtain ⟨v, hst, hd⟩ := dyn_pull_read hoj hr pre a heasy h
        rcases hst with ⟨hw, hv⟩ | ⟨hw, rfl⟩
        · rw [if_pos hw]
          refine .inl ?_
          unfold Oper.wp
          rcases hv w (Kept.refl No w) with e | ⟨e, rfl⟩
          · rw [e]; exact K _ _ hd
          · rw [e]; exact K _ _ hd
        · rw [if_neg (by simp [hw])]
          exact K _ _ hd
      | false =>
        have hc := dyn_pull_call hoj hr (fun cs b => hg.sel j oj cs b hoj) pre a heasy h
        rcases hc with ⟨hw, hc⟩ | ⟨hw, hc⟩
        · rw [if_pos hw]
          refine .inl ?_
          unfold Oper.wp
          unfold callW at hc
          split at hc <;> rename_i e
          · rw [e]; exact K _ _ hc.2
          · rw [e]; exact K _ _ hc.2
          · rw [e]
            exact hc.mono fun e w'' ⟨v, he, hk⟩ => by subst he; exact K _ _ hk.2
          · exact hc.elim
        · rw [if_neg (by simp [hw])]
          exact K _ _ hc.2

def tailB (md : Region.Mode) (ops : Array Oper) (M : List Nat) (L : Nat) : Bool :=
  decide (L + 1 = ops.size) && ((List.range L).all fun p => anc M p L) && Region.seqB md ops 1 L ((Array.replicate ops.size true).setIfInBounds L false)

/-- The walk along π, and the last one behind it. -/
theorem wp_region_dyn_tail {id : Nat} {Q : Exit → Act → World → Prop} {a : Act} {w : World} {l : List Oper} (π : List Nat) (L : Nat) (hm : P.follows .mixedOrders = true) (hB : dynB .any l.toArray (masks .any l []) (π ++ [L]) = true)
    (hT : tailB .any l.toArray (masks .any l []) L = true) (h : dyn P l.toArray (fun _ a w => wpList P l.toArray Q (l.drop L) a w) π a w) : (Code.region id l.toArray true).wp P Q a w := by
  have hg := good_of hB
  simp only [dynB, Bool.and_eq_true, List.all_eq_true, List.mem_range, decide_eq_true_eq] at hB
  obtain ⟨⟨⟨⟨⟨⟨h1, h2⟩, h3⟩, h4⟩, h5⟩, h6⟩, h7⟩ := hB
  simp only [tailB, Bool.and_eq_true, List.all_eq_true, List.mem_range, decide_eq_true_eq] at hT
  obtain ⟨⟨t1, t2⟩, t3⟩ := hT
  have t1' : L + 1 = l.length := by simpa using t1
  have hLl : L < l.length := by omega
  have hdrop : l.drop L = [l[L]] := by rw [List.drop_eq_getElem_cons hLl, List.drop_eq_nil_of_le (by omega)]
  rw [hdrop] at h
  have hpw := List.pairwise_append.1 (pairsB_spec h4)
  have hne : ∀ i ∈ π, i ≠ L := fun i hi => (hpw.2.2 i hi L (by simp)).2
  have hlen : π.length + 1 = l.toArray.size := by simpa using h7
  refine wp_region_any hm ?_
  refine (fun key => ?_) (simT (Q' := Q) hg (L := L) (oL := l[L]) (by simp) t1 t2 t3 _ π (Array.replicate l.toArray.size false) a { w with drawn := w.drawn + 1 } rfl ⟨by simp, fun j oj _ hl => (by rw [getD_replicate_false] at hl; cases hl)⟩ (fun i hi => ?_) hpw.1 (fun i hi => ?_) (dyn_mono π a w _ ((Kept.refl No w).drew) h))
  · rw [hlen] at key
    exact key
  · refine ⟨fun _ => by simpa using h6 i hi, fun _ => getD_in (by simpa using hi) (getD_replicate_false _ _)⟩
  · have := h5 i (by simp [hi])
    have := hne i hi
    omega
end
end Go.Proofs.YtaffaliplmfagaaGreatDoor.Calm
