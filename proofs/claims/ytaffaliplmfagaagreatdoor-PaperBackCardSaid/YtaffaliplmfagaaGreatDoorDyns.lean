/-
  A statement whose order is open, whose calls hand out fresh memory: one walk in an order in which each operation that only reads comes as early as it can. XDyn in a world that the operations may write: reads that lie outside what is written, writes in their order. XDynS, with a last operation that waits for all others and may do what it will. XDyn, with a last operation that waits for all others and may do what it will.
-/
import Derived.Test.YtaffaliplmfagaaGreatDoorCalm
namespace Go.Proofs.YtaffaliplmfagaaGreatDoor.Calm
open Go Go.Proofs.YtaffaliplmfagaaGreatDoor.Own

section
variable {P : Program} {ops : Array Oper} {md : Region.Mode} {Q' : Exit → Act → World → Prop}

/-- An operation that enters no function and makes nothing. -/
def isRead0 (o : Oper) : Bool := match o.op with
  | .move _ | .assign _ | .load _ _ | .binOp _ _ _ _ _ | .unOp _ _ _ | .convert _ _ _ | .slice _ _ _ _ _ | .fieldAddr _ _ _ | .indexAddr _ _ _ | .index _ _ _ | .build _ _ | .extract _ _ | .pick _ _ _ => true
  | _ => false
/-- .. or a nil check. -/
def isRead (o : Oper) : Bool := match o.op with
  | .nilCheck _ => true
  | _ => isRead0 o
theorem isRead_of {o : Oper} (h : isRead0 o = true) : isRead o = true := by
  unfold isRead
  split
  · rfl
  · exact h
theorem run_v (s : Sem Value) (w : World) (f : FuncId) (args : Array Value) (w' : World) : (do pure (Next.value (← s)) : Sem Next).run P w ≠ .ok (.enter f args) w' := by
  rw [Sem.run_bind]
  cases s.run P w with
  | ok v w1 => simp [Result.andThen]
  | halt x w1 => simp [Result.andThen]
theorem noEnter {o : Oper} (h : isRead0 o = true) (ρ : Operand → Value) (w : World) (f : FuncId) (args : Array Value) (w' : World) : (execOp ρ o).run P w ≠ .ok (.enter f args) w' := by
  unfold isRead0 at h
  unfold execOp
  split at h <;> (try cases h) <;> rename_i e <;> rw [e] <;> first | exact run_v _ w f args w' | (simp; done) | (simp only [Sem.run_bind]; rename_i c _ _; cases (asBool (ρ c)).run P w <;> simp [Result.andThen])

/-- The same value in every later world. -/
def steady (P : Program) (ops : Array Oper) (w : World) (o : Oper) (v : Value) (a : Act) : Prop :=
  (Region.wanted o (yielded ops a.tmps) = true ∧ ∀ w', Kept No w w' → ((execOp a.eval o).run P w' = .ok (.value v) w' ∨ ((execOp a.eval o).run P w' = .ok .skip w' ∧ v = undef))) ∨
  (Region.wanted o (yielded ops a.tmps) = false ∧ v = undef)
theorem steady.mono {w w1 : World} {o : Oper} {v : Value} {a : Act} (h : steady P ops w o v a) (hk : Kept No w w1) : steady P ops w1 o v a := by
  rcases h with ⟨h1, h2⟩ | h
  · exact .inl ⟨h1, fun w' hw => h2 w' (hk.trans hw (fun _ _ f => f))⟩
  · exact .inr h
theorem steady_put {w : World} {o : Oper} {v : Value} {a : Act} {d : Option Tmp} {u : Value} (he : execOp (a.put d u).eval o = execOp a.eval o) (hw : Region.wanted o (yielded ops (a.put d u).tmps) = Region.wanted o (yielded ops a.tmps)) : steady P ops w o v (a.put d u) ↔ steady P ops w o v a := by
  unfold steady
  rw [he, hw]

/-- A call, or an operation that makes memory. -/
def callW (P : Program) (o : Oper) (a : Act) (w : World) (K : Value → World → Prop) : Prop :=
  match (execOp a.eval o).run P w with
  | .ok (.value v) w' => K v w'
  | .ok .skip w' => K undef w'
  | .ok (.enter f args) w' => Calls P f args w' fun e w'' => ∃ v, e = .returned v ∧ K v w''
  | _ => False
def callG (P : Program) (ops : Array Oper) (o : Oper) (a : Act) (w : World) (K : Value → World → Prop) : Prop :=
  (Region.wanted o (yielded ops a.tmps) = true ∧ callW P o a w K) ∨ (Region.wanted o (yielded ops a.tmps) = false ∧ K undef w)
theorem callW.mono {o : Oper} {a : Act} {w : World} {K K' : Value → World → Prop} (hh : callW P o a w K) (h : ∀ v w', K v w' → K' v w') : callW P o a w K' := by
  unfold callW at *
  split at hh <;> rename_i e
  · exact h _ _ hh
  · exact h _ _ hh
  · exact hh.mono fun e w'' ⟨v, he, hk⟩ => ⟨v, he, h _ _ hk⟩
  · exact hh
theorem callG.mono {o : Oper} {a : Act} {w : World} {K K' : Value → World → Prop} (hh : callG P ops o a w K) (h : ∀ v w', K v w' → K' v w') : callG P ops o a w K' := by
  rcases hh with ⟨h1, h2⟩ | ⟨h1, h2⟩
  · exact .inl ⟨h1, h2.mono h⟩
  · exact .inr ⟨h1, h _ _ h2⟩
theorem callG_put {w : World} {o : Oper} {a : Act} {d : Option Tmp} {u : Value} {K : Value → World → Prop} (he : execOp (a.put d u).eval o = execOp a.eval o) (hw : Region.wanted o (yielded ops (a.put d u).tmps) = Region.wanted o (yielded ops a.tmps)) : callG P ops o (a.put d u) w K ↔ callG P ops o a w K := by
  unfold callG callW
  rw [he, hw]

/-- The walk along a list of operations' numbers. -/
def dyn (P : Program) (ops : Array Oper) (Q' : Exit → Act → World → Prop) : List Nat → Act → World → Prop
  | [], a, w => ∀ w1, Kept No w w1 → Q' .normal a w1
  | i :: r, a, w => match ops[i]? with
    | none => False
    | some o => if isRead o = true then ∃ v, steady P ops w o v a ∧ dyn P ops Q' r (a.put o.dst v) w
      else ∀ w1, Kept No w w1 → callG P ops o a w1 fun v w2 => Kept No w1 w2 ∧ dyn P ops Q' r (a.put o.dst v) w2
theorem dyn_mono : ∀ (r : List Nat) (a : Act) (w w1 : World), Kept No w w1 → dyn P ops Q' r a w → dyn P ops Q' r a w1
  | [], a, w, w1, hk, h => fun w2 h2 => h w2 (hk.trans h2 (fun _ _ f => f))
  | i :: r, a, w, w1, hk, h => by
    cases ho : ops[i]? with
    | none => simp only [dyn, ho] at h
    | some o =>
      cases hr : isRead o with
      | true =>
        simp only [dyn, ho, hr, if_true] at h ⊢
        obtain ⟨v, h1, h2⟩ := h
        exact ⟨v, h1.mono hk, dyn_mono r _ w w1 hk h2⟩
      | false =>
        simp only [dyn, ho, hr, Bool.false_eq_true, if_false] at h ⊢
        exact fun w2 h2 => h w2 (hk.trans h2 (fun _ _ f => f))

/-- One that reads, and does not stand in the way of oj. -/
def Easy (ops : Array Oper) (oj : Oper) (p : Nat) : Prop := ∃ o, ops[p]? = some o ∧ isRead o = true ∧ o.apart ops oj = true
theorem read_sel {o : Oper} (h : isRead o = true) : ∀ cs b, o.op ≠ .select cs b := by
  intro cs b e
  unfold isRead isRead0 at h
  rw [e] at h
  cases h

theorem dyn_pull_read {j : Nat} {oj : Oper} {post : List Nat} (hj : ops[j]? = some oj) (hr : isRead oj = true) {w : World} :
    ∀ (pre : List Nat) (a : Act), (∀ p ∈ pre, Easy ops oj p) → dyn P ops Q' (pre ++ j :: post) a w → ∃ v, steady P ops w oj v a ∧ dyn P ops Q' (pre ++ post) (a.put oj.dst v) w
  | [], a, _, h => by
    rw [List.nil_append] at h ⊢
    unfold dyn at h
    simpa only [hj, hr, if_true] using h
  | p :: pre, a, he, h => by
    obtain ⟨o, ho, hro, hap⟩ := he p (by simp)
    obtain ⟨h1, h2, h3⟩ := Oper.apart_spec hap
    rw [List.cons_append] at h
    unfold dyn at h
    simp only [ho, hro, if_true] at h
    obtain ⟨vp, hs, hd⟩ := h
    obtain ⟨v, hv, hd2⟩ := dyn_pull_read hj hr pre _ (fun q hq => he q (by simp [hq])) hd
    have hv2 := (steady_put (execOp_put oj (read_sel hr) a o.dst vp h1) (wanted_put oj a o.dst vp h1)).1 hv
    refine ⟨v, hv2, ?_⟩
    rw [List.cons_append]
    unfold dyn
    simp only [ho, hro, if_true]
    refine ⟨vp, (steady_put (execOp_put o (read_sel hro) a oj.dst v h3) (wanted_put o a oj.dst v h3)).2 hs, ?_⟩
    rw [← Act.put_comm a vp v h2]
    exact hd2

theorem dyn_pull_call {j : Nat} {oj : Oper} {post : List Nat} (hj : ops[j]? = some oj) (hr : isRead oj = false) (hsel : ∀ cs b, oj.op ≠ .select cs b) {w : World} :
    ∀ (pre : List Nat) (a : Act), (∀ p ∈ pre, Easy ops oj p) → dyn P ops Q' (pre ++ j :: post) a w → callG P ops oj a w fun v w2 => Kept No w w2 ∧ dyn P ops Q' (pre ++ post) (a.put oj.dst v) w2
  | [], a, _, h => by
    rw [List.nil_append] at h ⊢
    unfold dyn at h
    simp only [hj, hr, Bool.false_eq_true, if_false] at h
    exact h w (Kept.refl No w)
  | p :: pre, a, he, h => by
    obtain ⟨o, ho, hro, hap⟩ := he p (by simp)
    obtain ⟨h1, h2, h3⟩ := Oper.apart_spec hap
    rw [List.cons_append] at h
    unfold dyn at h
    simp only [ho, hro, if_true] at h
    obtain ⟨vp, hs, hd⟩ := h
    have hc := dyn_pull_call hj hr hsel pre _ (fun q hq => he q (by simp [hq])) hd
    rw [callG_put (execOp_put oj hsel a o.dst vp h1) (wanted_put oj a o.dst vp h1)] at hc
    refine hc.mono fun v w2 ⟨hk, hd2⟩ => ⟨hk, ?_⟩
    rw [List.cons_append]
    unfold dyn
    simp only [ho, hro, if_true]
    refine ⟨vp, ((steady_put (execOp_put o (read_sel hro) a oj.dst v h3) (wanted_put o a oj.dst v h3)).2 hs).mono hk, ?_⟩
    rw [← Act.put_comm a vp v h2]
    exact hd2

/-! ### what the kernel checks -/
def deps (md : Region.Mode) (o : Oper) : List Nat := (o.after.toList.filter (Region.binds md)).map (·.on)
theorem mem_deps {o : Oper} {d : Nat} : d ∈ deps md o ↔ ∃ e ∈ o.after, Region.binds md e = true ∧ e.on = d := by
  simp [deps, and_assoc]
def masks (md : Region.Mode) : List Oper → List Nat → List Nat
  | [], acc => acc
  | o :: r, acc => masks md r (acc ++ [(deps md o).foldl (fun m d => m ||| (1 <<< d) ||| acc.getD d 0) 0])
def anc (M : List Nat) (p j : Nat) : Bool := (M.getD j 0).testBit p
def depsB (md : Region.Mode) (ops : Array Oper) (j : Nat) : Bool := match ops[j]? with
  | none => false
  | some o => (deps md o).all (fun d => decide (d < j))
def ancB (md : Region.Mode) (ops : Array Oper) (M : List Nat) (j : Nat) : Bool := match ops[j]? with
  | none => false
  | some o => (List.range ops.size).all fun p => !anc M p j || (deps md o).any (fun d => d == p || anc M p d)
def pairB (md : Region.Mode) (ops : Array Oper) (M : List Nat) (p j : Nat) : Bool := match ops[p]?, ops[j]? with
  | some op, some oj => !(deps md op).contains j && (anc M p j || (isRead op && op.apart ops oj))
  | _, _ => false
def pairsB (md : Region.Mode) (ops : Array Oper) (M : List Nat) : List Nat → Bool
  | [] => true
  | i :: r => r.all (fun j => pairB md ops M i j && decide (i ≠ j)) && pairsB md ops M r
def dynB (md : Region.Mode) (ops : Array Oper) (M : List Nat) (π : List Nat) : Bool :=
  Region.noSelect ops && (List.range ops.size).all (depsB md ops) && (List.range ops.size).all (ancB md ops M) && pairsB md ops M π && π.all (fun i => decide (i < ops.size)) && (List.range ops.size).all (fun i => π.contains i) && decide (π.length = ops.size)
theorem pairsB_spec {M : List Nat} : ∀ {π : List Nat}, pairsB md ops M π = true → π.Pairwise (fun p j => pairB md ops M p j = true ∧ p ≠ j)
  | [], _ => List.Pairwise.nil
  | i :: r, h => by
    simp only [pairsB, Bool.and_eq_true, List.all_eq_true, decide_eq_true_eq] at h
    exact List.pairwise_cons.2 ⟨fun j hj => h.1 j hj, pairsB_spec h.2⟩

structure Good (md : Region.Mode) (ops : Array Oper) (M : List Nat) : Prop where
  sel : ∀ (j : Nat) (o : Oper) cs b, ops[j]? = some o → o.op ≠ .select cs b
  below : ∀ j o, ops[j]? = some o → ∀ d ∈ deps md o, d < j
  up : ∀ j o, ops[j]? = some o → ∀ p, p < ops.size → anc M p j = true → ∃ d ∈ deps md o, d = p ∨ anc M p d = true

structure Shut (md : Region.Mode) (ops : Array Oper) (listed : Array Bool) : Prop where
  size : listed.size = ops.size
  closed : ∀ j oj, ops[j]? = some oj → listed.getD j false = true → ∀ e ∈ oj.after, Region.binds md e = true → listed.getD e.on false = true

theorem anc_listed {M : List Nat} {listed : Array Bool} (hg : Good md ops M) (hs : Shut md ops listed) {p : Nat} (hp : p < ops.size) : ∀ (j : Nat) (o : Oper), ops[j]? = some o → (∀ e ∈ o.after, Region.binds md e = true → listed.getD e.on false = true) → anc M p j = true → listed.getD p false = true := by
  intro j
  induction j using Nat.strongRecOn with
  | ind j ih =>
    intro o ho hall ha
    obtain ⟨d, hd, hdp⟩ := hg.up j o ho p hp ha
    have hlt := hg.below j o ho d hd
    obtain ⟨e, he, hb, rfl⟩ := mem_deps.1 hd
    have hl := hall e he hb
    rcases hdp with h | h
    · rw [← h]; exact hl
    · have hsz : e.on < ops.size := by
        have := (Array.getElem?_eq_some_iff.1 ho).1
        omega
      exact ih e.on hlt _ (Array.getElem?_eq_getElem hsz) (fun e' he' hb' => hs.closed _ _ (Array.getElem?_eq_getElem hsz) hl e' he' hb') h

theorem sim {M : List Nat} (hg : Good md ops M) : ∀ (n : Nat) (rem : List Nat) (listed : Array Bool) (a : Act) (w : World), rem.length = n → Shut md ops listed →
    (∀ i, i < ops.size → (listed.getD i true = false ↔ i ∈ rem)) → rem.Pairwise (fun p j => pairB md ops M p j = true ∧ p ≠ j) → (∀ i ∈ rem, i < ops.size) →
    dyn P ops Q' rem a w → wpAny P md ops Q' n listed a w := by
  intro n
  induction n with
  | zero =>
    intro rem listed a w hn hs hl hpw hsz h
    obtain rfl : rem = [] := List.eq_nil_of_length_eq_zero hn
    refine ⟨List.eq_nil_iff_forall_not_mem.2 fun j hj => ?_, h w (Kept.refl No w)⟩
    obtain ⟨h1, o, ho, _⟩ := mem_ready.1 hj
    have := (hl j (Array.getElem?_eq_some_iff.1 ho).1).1 h1
    cases this
  | succ n ih =>
    intro rem listed a w hn hs hl hpw hsz h
    refine ⟨fun h0 => ?_, fun j hj => ?_⟩
    · exfalso
      cases rem with
      | nil => simp at hn
      | cons i r =>
        have hi := hsz i (by simp)
        have ho := Array.getElem?_eq_getElem hi
        have hr : i ∈ Region.ready md ops listed := by
          refine mem_ready.2 ⟨(hl i hi).2 (by simp), _, ho, fun e he hb => ?_⟩
          have hd : e.on ∈ deps md ops[i] := mem_deps.2 ⟨e, he, hb, rfl⟩
          have hlt := hg.below i _ ho _ hd
          cases hx : listed.getD e.on false with
          | true => rfl
          | false =>
            exfalso
            have hm := (hl e.on (by omega)).1 (getD_in (by rw [hs.size]; omega) hx)
            have hmr : e.on ∈ r := by
              rcases List.mem_cons.1 hm with h | h
              · omega
              · exact h
            have hpr := ((List.pairwise_cons.1 hpw).1 _ hmr).1
            have ho2 := Array.getElem?_eq_getElem (hsz _ hm)
            simp only [pairB, ho, ho2, Bool.and_eq_true, Bool.not_eq_true'] at hpr
            have := hpr.1
            simp only [List.contains_eq_mem, decide_eq_false_iff_not] at this
            exact this hd
        rw [h0] at hr
        cases hr
    · obtain ⟨h1, oj, hoj, hall⟩ := mem_ready.1 hj
      have hjs := (Array.getElem?_eq_some_iff.1 hoj).1
      have hjr := (hl j hjs).1 h1
      obtain ⟨pre, post, rfl⟩ := List.append_of_mem hjr
      have hpa := List.pairwise_append.1 hpw
      have hpc := List.pairwise_cons.1 hpa.2.1
      have heasy : ∀ p ∈ pre, Easy ops oj p := fun p hp => by
        have hps := hsz p (by simp [hp])
        have ho := Array.getElem?_eq_getElem hps
        have hpr := (hpa.2.2 p hp j (by simp)).1
        simp only [pairB, ho, hoj, Bool.and_eq_true, Bool.or_eq_true] at hpr
        rcases hpr.2 with h | ⟨h2, h3⟩
        · have h4 := anc_listed hg hs hps j oj hoj hall h
          have h5 := (hl p hps).2 (by simp [hp])
          rw [getD_both h5] at h4
          cases h4
        · exact ⟨_, ho, h2, h3⟩
      have hjp : j ∉ pre ++ post := by
        intro hm
        rcases List.mem_append.1 hm with hm | hm
        · exact (hpa.2.2 j hm j (by simp)).2 rfl
        · exact (hpc.1 j hm).2 rfl
      have hs' : Shut md ops (listed.setIfInBounds j true) := ⟨by simpa using hs.size, fun k ok hk hlk e he hb => by
        by_cases hkj : k = j
        · subst hkj
          obtain rfl : ok = oj := Option.some.inj (hk.symm.trans hoj)
          exact getD_set_true (hall e he hb)
        · rw [getD_set_ne false (Ne.symm hkj)] at hlk
          exact getD_set_true (hs.closed k ok hk hlk e he hb)⟩
      have hl' : ∀ i, i < ops.size → ((listed.setIfInBounds j true).getD i true = false ↔ i ∈ pre ++ post) := fun i hi => by
        by_cases hij : i = j
        · subst hij
          refine ⟨fun h => ?_, fun h => absurd h hjp⟩
          have : i < listed.size := by rw [hs.size]; exact hi
          simp [this] at h
        · rw [getD_set_ne true (Ne.symm hij), hl i hi]
          simp [hij]
      have hpw' : (pre ++ post).Pairwise (fun p j => pairB md ops M p j = true ∧ p ≠ j) := List.pairwise_append.2 ⟨hpa.1, hpc.2, fun x hx y hy => hpa.2.2 x hx y (by simp [hy])⟩
      have hsz' : ∀ i ∈ pre ++ post, i < ops.size := fun i hi => hsz i (by
        rcases List.mem_append.1 hi with h | h <;> simp [h])
      have hn' : (pre ++ post).length = n := by simp at hn ⊢; omega
      have K : ∀ a' w', dyn P ops Q' (pre ++ post) a' w' → wpAny P md ops Q' n (listed.setIfInBounds j true) a' w' := fun a' w' hd => ih _ _ a' w' hn' hs' hl' hpw' hsz' hd
      unfold wpOp
      simp only [hoj]
      cases hr : isRead oj with
      | true =>
        obtain ⟨v, hst, hd⟩ := dyn_pull_read hoj hr pre a heasy h
        rcases hst with ⟨hw, hv⟩ | ⟨hw, rfl⟩
        · rw [if_pos hw]
          refine .inl ?_
          unfold Oper.wp
          rcases hv w (Kept.refl No w) with e | ⟨e, rfl⟩
          · rw [e]; exact K _ _ hd
          · rw [e]; exact K _ _ hd
        · rw [if_neg (by simp [hw])]
          exact K _ _ hd
      | false =>
        have hc := dyn_pull_call hoj hr (fun cs b => hg.sel j oj cs b hoj) pre a heasy h
        rcases hc with ⟨hw, hc⟩ | ⟨hw, hc⟩
        · rw [if_pos hw]
          refine .inl ?_
          unfold Oper.wp
          unfold callW at hc
          split at hc <;> rename_i e
          · rw [e]; exact K _ _ hc.2
          · rw [e]; exact K _ _ hc.2
          · rw [e]
            exact hc.mono fun e w'' ⟨v, he, hk⟩ => by subst he; exact K _ _ hk.2
          · exact hc.elim
        · rw [if_neg (by simp [hw])]
          exact K _ _ hc.2

theorem good_of {M π : List Nat} (h : dynB md ops M π = true) : Good md ops M := by
  simp only [dynB, Bool.and_eq_true, List.all_eq_true, List.mem_range, decide_eq_true_eq] at h
  obtain ⟨⟨⟨⟨⟨⟨h1, h2⟩, h3⟩, _⟩, _⟩, _⟩, _⟩ := h
  refine ⟨Region.noSelect_spec h1, fun j o ho d hd => ?_, fun j o ho p hp ha => ?_⟩
  · have := h2 j (Array.getElem?_eq_some_iff.1 ho).1
    simp only [depsB, ho, List.all_eq_true, decide_eq_true_eq] at this
    exact this d hd
  · have := h3 j (Array.getElem?_eq_some_iff.1 ho).1
    simp only [ancB, ho, List.all_eq_true, List.mem_range, Bool.or_eq_true, Bool.not_eq_true', List.any_eq_true] at this
    rcases this p hp with h | ⟨d, hd, h⟩
    · rw [ha] at h; cases h
    · exact ⟨d, hd, by simpa using h⟩

/-- The walk along π. -/
theorem wp_region_dyn {id : Nat} {Q : Exit → Act → World → Prop} {a : Act} {w : World} {l : List Oper} (π : List Nat) (hm : P.follows .mixedOrders = true) (hB : dynB .any l.toArray (masks .any l []) π = true)
    (h : dyn P l.toArray Q π a w) : (Code.region id l.toArray true).wp P Q a w := by
  have hg := good_of hB
  simp only [dynB, Bool.and_eq_true, List.all_eq_true, List.mem_range, decide_eq_true_eq] at hB
  obtain ⟨⟨⟨⟨⟨⟨h1, h2⟩, h3⟩, h4⟩, h5⟩, h6⟩, h7⟩ := hB
  refine wp_region_any hm ?_
  refine sim hg _ π _ a _ h7 ⟨by simp, fun j oj _ hl => (by rw [getD_replicate_false] at hl; cases hl)⟩ (fun i hi => ?_) (pairsB_spec h4) (fun i hi => h5 i hi) (dyn_mono π a w _ ((Kept.refl No w).drew) h)
  refine ⟨fun _ => by simpa using h6 i hi, fun _ => getD_in (by simpa using hi) (getD_replicate_false _ _)⟩

/-! ### how it is walked -/
def sel (l : List Oper) (π : List Nat) : List Oper := π.filterMap fun i => l[i]?
def readsB (l : List Oper) (π : List Nat) : Bool := π.all fun i => match l[i]? with
  | none => false
  | some o => isRead0 o
/-- Some that read, in the order of the list. -/
theorem dyn_reads {l : List Oper} {w : World} {rest : List Nat} : ∀ (π : List Nat) (a : Act), readsB l π = true →
    wpQuiet P l.toArray (fun w' => ∃ p : KW w, w' = p.w) (fun a' => dyn P l.toArray Q' rest a' w) (sel l π) a → dyn P l.toArray Q' (π ++ rest) a w
  | [], a, _, h => h
  | i :: π, a, hr, h => by
    simp only [readsB, List.all_cons, Bool.and_eq_true] at hr
    cases ho : l[i]? with
    | none => rw [ho] at hr; cases hr.1
    | some o =>
      rw [ho] at hr
      have ho2 : l.toArray[i]? = some o := by simpa using ho
      rw [List.cons_append]
      simp only [dyn, ho2, isRead_of hr.1, if_true]
      have hs : sel l (i :: π) = o :: sel l π := by simp [sel, ho]
      rw [hs] at h
      unfold wpQuiet at h
      by_cases hw : Region.wanted o (yielded l.toArray a.tmps) = true
      · rw [if_pos hw] at h
        obtain ⟨v, h1, h2⟩ := h
        refine ⟨v, .inl ⟨hw, fun w' hk => ?_⟩, dyn_reads π _ (by simpa [readsB] using hr.2) h2⟩
        have h3 := h1 w' ⟨⟨w', hk⟩, rfl⟩
        unfold Oper.quietAt at h3
        cases hx : (execOp a.eval o).run P w' with
        | ok x w'' =>
          rw [hx] at h3
          cases x <;> simp only [Oper.quietUpon] at h3
          case value u => exact .inl (by rw [h3.1, h3.2])
          case skip => exact .inr ⟨by rw [h3.1], h3.2⟩
          case enter f args => exact absurd hx (noEnter hr.1 _ _ _ _ _)
        | halt x w'' => rw [hx] at h3; simp only [Oper.quietUpon] at h3
      · rw [if_neg hw] at h
        exact ⟨undef, .inr ⟨by simpa using hw, rfl⟩, dyn_reads π _ (by simpa [readsB] using hr.2) h⟩
/-- A call, in whatever later world. -/
theorem dyn_call {l : List Oper} {w : World} {i : Nat} {r : List Nat} {a : Act} {o : Oper} (ho : l[i]? = some o) (hr : isRead o = false) (hg : o.guard = none)
    (h : ∀ p : KW w, callW P o a p.w fun v w2 => Kept No p.w w2 ∧ dyn P l.toArray Q' r (a.put o.dst v) w2) : dyn P l.toArray Q' (i :: r) a w := by
  have ho2 : l.toArray[i]? = some o := by simpa using ho
  simp only [dyn, ho2, hr, Bool.false_eq_true, if_false]
  exact fun w1 hk => .inl ⟨by simp [Region.wanted, hg], h ⟨w1, hk⟩⟩
/-- A call of a function. -/
theorem dyn_fn {l : List Oper} {w : World} {i : Nat} {r : List Nat} {a : Act} {o : Oper} (f : FuncId) (args : Array Value) (ho : l[i]? = some o) (hr : isRead o = false) (hg : o.guard = none)
    (hrun : ∀ w, (execOp a.eval o).run P w = .ok (.enter f args) w)
    (h : ∀ p : KW w, Calls P f args p.w fun e w2 => ∃ v, e = .returned v ∧ Kept No p.w w2 ∧ dyn P l.toArray Q' r (a.put o.dst v) w2) : dyn P l.toArray Q' (i :: r) a w :=
  dyn_call ho hr hg fun p => by
    unfold callW
    rw [hrun p.w]
    exact h p
/-- A call under a guard that holds. -/
theorem dyn_fn_g {l : List Oper} {w : World} {i : Nat} {r : List Nat} {a : Act} {o : Oper} (f : FuncId) (args : Array Value) (ho : l[i]? = some o) (hr : isRead o = false) (hg : Region.wanted o (yielded l.toArray a.tmps) = true)
    (hrun : ∀ w, (execOp a.eval o).run P w = .ok (.enter f args) w)
    (h : ∀ p : KW w, Calls P f args p.w fun e w2 => ∃ v, e = .returned v ∧ Kept No p.w w2 ∧ dyn P l.toArray Q' r (a.put o.dst v) w2) : dyn P l.toArray Q' (i :: r) a w := by
  have ho2 : l.toArray[i]? = some o := by simpa using ho
  simp only [dyn, ho2, hr, Bool.false_eq_true, if_false]
  refine fun w1 hk => .inl ⟨hg, ?_⟩
  unfold callW
  rw [hrun w1]
  exact h ⟨w1, hk⟩
theorem dyn_nil {w : World} {a : Act} (h : ∀ p : KW w, Q' .normal a p.w) : dyn P ops Q' [] a w := fun w1 hk => h ⟨w1, hk⟩
end
end Go.Proofs.YtaffaliplmfagaaGreatDoor.Calm

set_option linter.unusedVariables false
namespace Go.Proofs.YtaffaliplmfagaaGreatDoor.Calm
open Go Go.Proofs.YtaffaliplmfagaaGreatDoor.Own

section
variable {P : Program} {ops : Array Oper} {md : Region.Mode} {Q' : Exit → Act → World → Prop} {S : Nat → Prop}

structure KS (S : Nat → Prop) (W : World) where
  w : World
  h : Kept S W w
instance (S : Nat → Prop) (w : World) : Inhabited (KS S w) := ⟨⟨w, Kept.refl S w⟩⟩
theorem KS.old {w : World} {a : Addr} {v : Value} (h : w.cell? a = some v) (hb : a.block < w.heap.size) (hS : ¬ S a.block) : ∀ p : KS S w, p.w.cell? a = some v := fun p => (p.h.cell hb hS).trans h
theorem kS_trans {w w1 w2 : World} (h : Kept S w w1) (h2 : Kept S w1 w2) : Kept S w w2 := h.trans h2 (fun _ _ f => f)

/-- The same value in every later world. -/
def steadyS (S : Nat → Prop) (P : Program) (ops : Array Oper) (w : World) (o : Oper) (v : Value) (a : Act) : Prop :=
  (Region.wanted o (yielded ops a.tmps) = true ∧ ∀ w', Kept S w w' → ((execOp a.eval o).run P w' = .ok (.value v) w' ∨ ((execOp a.eval o).run P w' = .ok .skip w' ∧ v = undef))) ∨
  (Region.wanted o (yielded ops a.tmps) = false ∧ v = undef)
theorem steadyS.mono {w w1 : World} {o : Oper} {v : Value} {a : Act} (h : steadyS S P ops w o v a) (hk : Kept S w w1) : steadyS S P ops w1 o v a := by
  rcases h with ⟨h1, h2⟩ | h
  · exact .inl ⟨h1, fun w' hw => h2 w' (kS_trans hk hw)⟩
  · exact .inr h
theorem steadyS_put {w : World} {o : Oper} {v : Value} {a : Act} {d : Option Tmp} {u : Value} (he : execOp (a.put d u).eval o = execOp a.eval o) (hw : Region.wanted o (yielded ops (a.put d u).tmps) = Region.wanted o (yielded ops a.tmps)) : steadyS S P ops w o v (a.put d u) ↔ steadyS S P ops w o v a := by
  unfold steadyS
  rw [he, hw]

/-- The walk along a list of operations' numbers. -/
def dynS (S : Nat → Prop) (P : Program) (ops : Array Oper) (Q' : Exit → Act → World → Prop) : List Nat → Act → World → Prop
  | [], a, w => Q' .normal a w
  | i :: r, a, w => match ops[i]? with
    | none => False
    | some o => if isRead o = true then ∃ v, steadyS S P ops w o v a ∧ dynS S P ops Q' r (a.put o.dst v) w
      else callG P ops o a w fun v w2 => Kept S w w2 ∧ dynS S P ops Q' r (a.put o.dst v) w2

theorem dynS_pull_read {j : Nat} {oj : Oper} {post : List Nat} (hj : ops[j]? = some oj) (hr : isRead oj = true) {w : World} :
    ∀ (pre : List Nat) (a : Act), (∀ p ∈ pre, Easy ops oj p) → dynS S P ops Q' (pre ++ j :: post) a w → ∃ v, steadyS S P ops w oj v a ∧ dynS S P ops Q' (pre ++ post) (a.put oj.dst v) w
  | [], a, _, h => by
    rw [List.nil_append] at h ⊢
    unfold dynS at h
    simpa only [hj, hr, if_true] using h
  | p :: pre, a, he, h => by
    obtain ⟨o, ho, hro, hap⟩ := he p (by simp)
    obtain ⟨h1, h2, h3⟩ := Oper.apart_spec hap
    rw [List.cons_append] at h
    unfold dynS at h
    simp only [ho, hro, if_true] at h
    obtain ⟨vp, hs, hd⟩ := h
    obtain ⟨v, hv, hd2⟩ := dynS_pull_read hj hr pre _ (fun q hq => he q (by simp [hq])) hd
    have hv2 := (steadyS_put (execOp_put oj (read_sel hr) a o.dst vp h1) (wanted_put oj a o.dst vp h1)).1 hv
    refine ⟨v, hv2, ?_⟩
    rw [List.cons_append]
    unfold dynS
    simp only [ho, hro, if_true]
    refine ⟨vp, (steadyS_put (execOp_put o (read_sel hro) a oj.dst v h3) (wanted_put o a oj.dst v h3)).2 hs, ?_⟩
    rw [← Act.put_comm a vp v h2]
    exact hd2

theorem dynS_pull_call {j : Nat} {oj : Oper} {post : List Nat} (hj : ops[j]? = some oj) (hr : isRead oj = false) (hsel : ∀ cs b, oj.op ≠ .select cs b) {w : World} :
    ∀ (pre : List Nat) (a : Act), (∀ p ∈ pre, Easy ops oj p) → dynS S P ops Q' (pre ++ j :: post) a w → callG P ops oj a w fun v w2 => Kept S w w2 ∧ dynS S P ops Q' (pre ++ post) (a.put oj.dst v) w2
  | [], a, _, h => by
    rw [List.nil_append] at h ⊢
    unfold dynS at h
    simp only [hj, hr, Bool.false_eq_true, if_false] at h
    exact h
  | p :: pre, a, he, h => by
    obtain ⟨o, ho, hro, hap⟩ := he p (by simp)
    obtain ⟨h1, h2, h3⟩ := Oper.apart_spec hap
    rw [List.cons_append] at h
    unfold dynS at h
    simp only [ho, hro, if_true] at h
    obtain ⟨vp, hs, hd⟩ := h
    have hc := dynS_pull_call hj hr hsel pre _ (fun q hq => he q (by simp [hq])) hd
    rw [callG_put (execOp_put oj hsel a o.dst vp h1) (wanted_put oj a o.dst vp h1)] at hc
    refine hc.mono fun v w2 ⟨hk, hd2⟩ => ⟨hk, ?_⟩
    rw [List.cons_append]
    unfold dynS
    simp only [ho, hro, if_true]
    refine ⟨vp, ((steadyS_put (execOp_put o (read_sel hro) a oj.dst v h3) (wanted_put o a oj.dst v h3)).2 hs).mono hk, ?_⟩
    rw [← Act.put_comm a vp v h2]
    exact hd2

theorem simS {M : List Nat} (hg : Good md ops M) : ∀ (n : Nat) (rem : List Nat) (listed : Array Bool) (a : Act) (w : World), rem.length = n → Shut md ops listed →
    (∀ i, i < ops.size → (listed.getD i true = false ↔ i ∈ rem)) → rem.Pairwise (fun p j => pairB md ops M p j = true ∧ p ≠ j) → (∀ i ∈ rem, i < ops.size) →
    dynS S P ops Q' rem a w → wpAny P md ops Q' n listed a w := by
  intro n
  induction n with
  | zero =>
    intro rem listed a w hn hs hl hpw hsz h
    obtain rfl : rem = [] := List.eq_nil_of_length_eq_zero hn
    refine ⟨List.eq_nil_iff_forall_not_mem.2 fun j hj => ?_, h⟩
    obtain ⟨h1, o, ho, _⟩ := mem_ready.1 hj
    have := (hl j (Array.getElem?_eq_some_iff.1 ho).1).1 h1
    cases this
  | succ n ih =>
    intro rem listed a w hn hs hl hpw hsz h
    refine ⟨fun h0 => ?_, fun j hj => ?_⟩
    · exfalso
      cases rem with
      | nil => simp at hn
      | cons i r =>
        have hi := hsz i (by simp)
        have ho := Array.getElem?_eq_getElem hi
        have hr : i ∈ Region.ready md ops listed := by
          refine mem_ready.2 ⟨(hl i hi).2 (by simp), _, ho, fun e he hb => ?_⟩
          have hd : e.on ∈ deps md ops[i] := mem_deps.2 ⟨e, he, hb, rfl⟩
          have hlt := hg.below i _ ho _ hd
          cases hx : listed.getD e.on false with
          | true => rfl
          | false =>
            exfalso
            have hm := (hl e.on (by omega)).1 (getD_in (by rw [hs.size]; omega) hx)
            have hmr : e.on ∈ r := by
              rcases List.mem_cons.1 hm with h | h
              · omega
              · exact h
            have hpr := ((List.pairwise_cons.1 hpw).1 _ hmr).1
            have ho2 := Array.getElem?_eq_getElem (hsz _ hm)
            simp only [pairB, ho, ho2, Bool.and_eq_true, Bool.not_eq_true'] at hpr
            have := hpr.1
            simp only [List.contains_eq_mem, decide_eq_false_iff_not] at this
            exact this hd
        rw [h0] at hr
        cases hr
    · obtain ⟨h1, oj, hoj, hall⟩ := mem_ready.1 hj
      have hjs := (Array.getElem?_eq_some_iff.1 hoj).1
      have hjr := (hl j hjs).1 h1
      obtain ⟨pre, post, rfl⟩ := List.append_of_mem hjr
      have hpa := List.pairwise_append.1 hpw
      have hpc := List.pairwise_cons.1 hpa.2.1
      have heasy : ∀ p ∈ pre, Easy ops oj p := fun p hp => by
        have hps := hsz p (by simp [hp])
        have ho := Array.getElem?_eq_getElem hps
        have hpr := (hpa.2.2 p hp j (by simp)).1
        simp only [pairB, ho, hoj, Bool.and_eq_true, Bool.or_eq_true] at hpr
        rcases hpr.2 with h | ⟨h2, h3⟩
        · have h4 := anc_listed hg hs hps j oj hoj hall h
          have h5 := (hl p hps).2 (by simp [hp])
          rw [getD_both h5] at h4
          cases h4
        · exact ⟨_, ho, h2, h3⟩
      have hjp : j ∉ pre ++ post := by
        intro hm
        rcases List.mem_append.1 hm with hm | hm
        · exact (hpa.2.2 j hm j (by simp)).2 rfl
        · exact (hpc.1 j hm).2 rfl
      have hs' : Shut md ops (listed.setIfInBounds j true) := ⟨by simpa using hs.size, fun k ok hk hlk e he hb => by
        by_cases hkj : k = j
        · subst hkj
          obtain rfl : ok = oj := Option.some.inj (hk.symm.trans hoj)
          exact getD_set_true (hall e he hb)
        · rw [getD_set_ne false (Ne.symm hkj)] at hlk
          exact getD_set_true (hs.closed k ok hk hlk e he hb)⟩
      have hl' : ∀ i, i < ops.size → ((listed.setIfInBounds j true).getD i true = false ↔ i ∈ pre ++ post) := fun i hi => by
        by_cases hij : i = j
        · subst hij
          refine ⟨fun h => ?_, fun h => absurd h hjp⟩
          have : i < listed.size := by rw [hs.size]; exact hi
          simp [this] at h
        · rw [getD_set_ne true (Ne.symm hij), hl i hi]
          simp [hij]
      have hpw' : (pre ++ post).Pairwise (fun p j => pairB md ops M p j = true ∧ p ≠ j) := List.pairwise_append.2 ⟨hpa.1, hpc.2, fun x hx y hy => hpa.2.2 x hx y (by simp [hy])⟩
      have hsz' : ∀ i ∈ pre ++ post, i < ops.size := fun i hi => hsz i (by
        rcases List.mem_append.1 hi with h | h <;> simp [h])
      have hn' : (pre ++ post).length = n := by simp at hn ⊢; omega
      have K : ∀ a' w', dynS S P ops Q' (pre ++ post) a' w' → wpAny P md ops Q' n (listed.setIfInBounds j true) a' w' := fun a' w' hd => ih _ _ a' w' hn' hs' hl' hpw' hsz' hd
      unfold wpOp
      simp only [hoj]
      cases hr : isRead oj with
      | true =>
        obtain ⟨v, hst, hd⟩ := dynS_pull_read hoj hr pre a heasy h
        rcases hst with ⟨hw, hv⟩ | ⟨hw, rfl⟩
        · rw [if_pos hw]
          refine .inl ?_
          unfold Oper.wp
          rcases hv w (Kept.refl S w) with e | ⟨e, rfl⟩
          · rw [e]; exact K _ _ hd
          · rw [e]; exact K _ _ hd
        · rw [if_neg (by simp [hw])]
          exact K _ _ hd
      | false =>
        have hc := dynS_pull_call hoj hr (fun cs b => hg.sel j oj cs b hoj) pre a heasy h
        rcases hc with ⟨hw, hc⟩ | ⟨hw, hc⟩
        · rw [if_pos hw]
          refine .inl ?_
          unfold Oper.wp
          unfold callW at hc
          split at hc <;> rename_i e
          · rw [e]; exact K _ _ hc.2
          · rw [e]; exact K _ _ hc.2
          · rw [e]
            exact hc.mono fun e w'' ⟨v, he, hk⟩ => by subst he; exact K _ _ hk.2
          · exact hc.elim
        · rw [if_neg (by simp [hw])]
          exact K _ _ hc.2


/-- The walk along π. -/
theorem wp_region_dynS {id : Nat} {Q : Exit → Act → World → Prop} {a : Act} {w : World} {l : List Oper} (S : Nat → Prop) (π : List Nat) (hm : P.follows .mixedOrders = true) (hB : dynB .any l.toArray (masks .any l []) π = true)
    (h : dynS S P l.toArray Q π a w.drew) : (Code.region id l.toArray true).wp P Q a w := by
  have hg := good_of hB
  simp only [dynB, Bool.and_eq_true, List.all_eq_true, List.mem_range, decide_eq_true_eq] at hB
  obtain ⟨⟨⟨⟨⟨⟨h1, h2⟩, h3⟩, h4⟩, h5⟩, h6⟩, h7⟩ := hB
  refine wp_region_any hm ?_
  refine simS hg _ π _ a _ h7 ⟨by simp, fun j oj _ hl => (by rw [getD_replicate_false] at hl; cases hl)⟩ (fun i hi => ?_) (pairsB_spec h4) (fun i hi => h5 i hi) h
  refine ⟨fun _ => by simpa using h6 i hi, fun _ => getD_in (by simpa using hi) (getD_replicate_false _ _)⟩

/-- Some that read, in the order of the list. -/
theorem dynS_reads {l : List Oper} {w : World} {rest : List Nat} : ∀ (π : List Nat) (a : Act), readsB l π = true →
    wpQuiet P l.toArray (fun w' => ∃ p : KS S w, w' = p.w) (fun a' => dynS S P l.toArray Q' rest a' w) (sel l π) a → dynS S P l.toArray Q' (π ++ rest) a w
  | [], a, _, h => h
  | i :: π, a, hr, h => by
    simp only [readsB, List.all_cons, Bool.and_eq_true] at hr
    cases ho : l[i]? with
    | none => rw [ho] at hr; cases hr.1
    | some o =>
      rw [ho] at hr
      have ho2 : l.toArray[i]? = some o := by simpa using ho
      rw [List.cons_append]
      simp only [dynS, ho2, isRead_of hr.1, if_true]
      have hs : sel l (i :: π) = o :: sel l π := by simp [sel, ho]
      rw [hs] at h
      unfold wpQuiet at h
      by_cases hw : Region.wanted o (yielded l.toArray a.tmps) = true
      · rw [if_pos hw] at h
        obtain ⟨v, h1, h2⟩ := h
        refine ⟨v, .inl ⟨hw, fun w' hk => ?_⟩, dynS_reads π _ (by simpa [readsB] using hr.2) h2⟩
        have h3 := h1 w' ⟨⟨w', hk⟩, rfl⟩
        unfold Oper.quietAt at h3
        cases hx : (execOp a.eval o).run P w' with
        | ok x w'' =>
          rw [hx] at h3
          cases x <;> simp only [Oper.quietUpon] at h3
          case value u => exact .inl (by rw [h3.1, h3.2])
          case skip => exact .inr ⟨by rw [h3.1], h3.2⟩
          case enter f args => exact absurd hx (noEnter hr.1 _ _ _ _ _)
        | halt x w'' => rw [hx] at h3; simp only [Oper.quietUpon] at h3
      · rw [if_neg hw] at h
        exact ⟨undef, .inr ⟨by simpa using hw, rfl⟩, dynS_reads π _ (by simpa [readsB] using hr.2) h⟩
/-- A nil check of a pointer. -/
theorem dynS_ptr {l : List Oper} {w : World} {i : Nat} {r : List Nat} {a : Act} {o : Oper} (x : Operand) (ad : Addr) (ho : l[i]? = some o) (hop : o.op = .nilCheck x) (hg : o.guard = none) (hx : a.eval x = .pointer (some ad))
    (h : dynS S P l.toArray Q' r (a.put o.dst (.pointer (some ad))) w) : dynS S P l.toArray Q' (i :: r) a w := by
  have ho2 : l.toArray[i]? = some o := by simpa using ho
  have hr : isRead o = true := by unfold isRead; rw [hop]
  simp only [dynS, ho2, hr, if_true]
  refine ⟨_, .inl ⟨by simp [Region.wanted, hg], fun w' _ => .inl ?_⟩, h⟩
  unfold execOp
  rw [hop]
  simp only [hx]
  rfl
/-- One that writes or makes memory. -/
theorem dynS_act {l : List Oper} {w : World} {i : Nat} {r : List Nat} {a : Act} {o : Oper} (ho : l[i]? = some o) (hr : isRead o = false) (hg : o.guard = none)
    (h : callW P o a w fun v w2 => Kept S w w2 ∧ dynS S P l.toArray Q' r (a.put o.dst v) w2) : dynS S P l.toArray Q' (i :: r) a w := by
  have ho2 : l.toArray[i]? = some o := by simpa using ho
  simp only [dynS, ho2, hr, Bool.false_eq_true, if_false]
  exact .inl ⟨by simp [Region.wanted, hg], h⟩
theorem dynS_nil {w : World} {a : Act} (h : Q' .normal a w) : dynS S P ops Q' [] a w := h
end
end Go.Proofs.YtaffaliplmfagaaGreatDoor.Calm

set_option linter.unusedVariables false
namespace Go.Proofs.YtaffaliplmfagaaGreatDoor.Calm
open Go Go.Proofs.YtaffaliplmfagaaGreatDoor.Own

section
variable {P : Program} {ops : Array Oper} {md : Region.Mode} {Q' : Exit → Act → World → Prop} {S : Nat → Prop}

theorem simST {M : List Nat} (hg : Good md ops M) {L : Nat} {oL : Oper} (hL : ops[L]? = some oL) (hLs : L + 1 = ops.size) (hanc : ∀ p, p < L → anc M p L = true)
    (hfin : Region.seqB md ops 1 L ((Array.replicate ops.size true).setIfInBounds L false) = true) : ∀ (n : Nat) (rem : List Nat) (listed : Array Bool) (a : Act) (w : World), rem.length = n → Shut md ops listed →
    (∀ i, i < ops.size → (listed.getD i true = false ↔ i ∈ rem ∨ i = L)) → rem.Pairwise (fun p j => pairB md ops M p j = true ∧ p ≠ j) → (∀ i ∈ rem, i < L) →
    dynS S P ops (fun _ a w => wpList P ops Q' [oL] a w) rem a w → wpAny P md ops Q' (n + 1) listed a w := by
  intro n
  induction n with
  | zero =>
    intro rem listed a w hn hs hl hpw hsz h
    obtain rfl : rem = [] := List.eq_nil_of_length_eq_zero hn
    have he : listed = (Array.replicate ops.size true).setIfInBounds L false := by
      refine Array.ext (by simpa using hs.size) fun i h1 h2 => ?_
      have hi : i < ops.size := by rw [← hs.size]; exact h1
      have := hl i hi
      simp only [List.not_mem_nil, false_or] at this
      rw [Array.getD_eq_getD_getElem?, Array.getElem?_eq_getElem h1, Option.getD_some] at this
      rw [Array.getElem_setIfInBounds (by simpa using hi)]
      by_cases hLi : L = i
      · rw [if_pos hLi]; exact this.2 hLi.symm
      · rw [if_neg hLi, Array.getElem_replicate]
        cases hx : listed[i] with
        | true => rfl
        | false => exact absurd (this.1 hx).symm hLi
    subst he
    refine wpAny_of_seq [oL] L _ a w (fun j => ?_) hfin h
    cases j with
    | zero => simpa using hL.symm
    | succ j => rw [Array.getElem?_eq_none (by omega)]; rfl
  | succ n ih =>
    intro rem listed a w hn hs hl hpw hsz h
    refine ⟨fun h0 => ?_, fun j hj => ?_⟩
    · exfalso
      cases rem with
      | nil => simp at hn
      | cons i r =>
        have hi := hsz i (by simp)
        have hi2 : i < ops.size := by omega
        have ho := Array.getElem?_eq_getElem hi2
        have hr : i ∈ Region.ready md ops listed := by
          refine mem_ready.2 ⟨(hl i hi2).2 (by simp), _, ho, fun e he hb => ?_⟩
          have hd : e.on ∈ deps md ops[i] := mem_deps.2 ⟨e, he, hb, rfl⟩
          have hlt := hg.below i _ ho _ hd
          cases hx : listed.getD e.on false with
          | true => rfl
          | false =>
            exfalso
            have hm := (hl e.on (by omega)).1 (getD_in (by rw [hs.size]; omega) hx)
            have hmr : e.on ∈ r := by
              rcases hm with hm | hm
              · rcases List.mem_cons.1 hm with h | h
                · omega
                · exact h
              · omega
            have hpr := ((List.pairwise_cons.1 hpw).1 _ hmr).1
            have ho2 := Array.getElem?_eq_getElem (show e.on < ops.size by omega)
            simp only [pairB, ho, ho2, Bool.and_eq_true, Bool.not_eq_true'] at hpr
            have := hpr.1
            simp only [List.contains_eq_mem, decide_eq_false_iff_not] at this
            exact this hd
        rw [h0] at hr
        cases hr
    · obtain ⟨h1, oj, hoj, hall⟩ := mem_ready.1 hj
      have hjs := (Array.getElem?_eq_some_iff.1 hoj).1
      have hjL : j ≠ L := by
        rintro rfl
        cases rem with
        | nil => simp at hn
        | cons i r =>
          have hi := hsz i (by simp)
          have h4 := anc_listed hg hs (show i < ops.size by omega) j oj hoj hall (hanc i hi)
          have h5 := (hl i (by omega)).2 (by simp)
          rw [getD_both h5] at h4
          cases h4
      have hjr := ((hl j hjs).1 h1).resolve_right hjL
      obtain ⟨pre, post, rfl⟩ := List.append_of_mem hjr
      have hpa := List.pairwise_append.1 hpw
      have hpc := List.pairwise_cons.1 hpa.2.1
      have heasy : ∀ p ∈ pre, Easy ops oj p := fun p hp => by
        have hps : p < ops.size := by have := hsz p (by simp [hp]); omega
        have ho := Array.getElem?_eq_getElem hps
        have hpr := (hpa.2.2 p hp j (by simp)).1
        simp only [pairB, ho, hoj, Bool.and_eq_true, Bool.or_eq_true] at hpr
        rcases hpr.2 with h | ⟨h2, h3⟩
        · have h4 := anc_listed hg hs hps j oj hoj hall h
          have h5 := (hl p hps).2 (by simp [hp])
          rw [getD_both h5] at h4
          cases h4
        · exact ⟨_, ho, h2, h3⟩
      have hjp : j ∉ pre ++ post := by
        intro hm
        rcases List.mem_append.1 hm with hm | hm
        · exact (hpa.2.2 j hm j (by simp)).2 rfl
        · exact (hpc.1 j hm).2 rfl
      have hs' : Shut md ops (listed.setIfInBounds j true) := ⟨by simpa using hs.size, fun k ok hk hlk e he hb => by
        by_cases hkj : k = j
        · subst hkj
          obtain rfl : ok = oj := Option.some.inj (hk.symm.trans hoj)
          exact getD_set_true (hall e he hb)
        · rw [getD_set_ne false (Ne.symm hkj)] at hlk
          exact getD_set_true (hs.closed k ok hk hlk e he hb)⟩
      have hl' : ∀ i, i < ops.size → ((listed.setIfInBounds j true).getD i true = false ↔ i ∈ pre ++ post ∨ i = L) := fun i hi => by
        by_cases hij : i = j
        · subst hij
          refine ⟨fun h => ?_, fun h => h.elim (fun h => absurd h hjp) (fun h => absurd h hjL)⟩
          have : i < listed.size := by rw [hs.size]; exact hi
          simp [this] at h
        · rw [getD_set_ne true (Ne.symm hij), hl i hi]
          simp [hij]
      have hpw' : (pre ++ post).Pairwise (fun p j => pairB md ops M p j = true ∧ p ≠ j) := List.pairwise_append.2 ⟨hpa.1, hpc.2, fun x hx y hy => hpa.2.2 x hx y (by simp [hy])⟩
      have hsz' : ∀ i ∈ pre ++ post, i < L := fun i hi => hsz i (by
        rcases List.mem_append.1 hi with h | h <;> simp [h])
      have hn' : (pre ++ post).length = n := by simp at hn ⊢; omega
      have K : ∀ a' w', dynS S P ops (fun _ a w => wpList P ops Q' [oL] a w) (pre ++ post) a' w' → wpAny P md ops Q' (n + 1) (listed.setIfInBounds j true) a' w' := fun a' w' hd => ih _ _ a' w' hn' hs' hl' hpw' hsz' hd
      unfold wpOp
      simp only [hoj]
      cases hr : isRead oj with
      | true =>
        obtain ⟨v, hst, hd⟩ := dynS_pull_read hoj hr pre a heasy h
        rcases hst with ⟨hw, hv⟩ | ⟨hw, rfl⟩
        · rw [if_pos hw]
          refine .inl ?_
          unfold Oper.wp
          rcases hv w (Kept.refl S w) with e | ⟨e, rfl⟩
          · rw [e]; exact K _ _ hd
          · rw [e]; exact K _ _ hd
        · rw [if_neg (by simp [hw])]
          exact K _ _ hd
      | false =>
        have hc := dynS_pull_call hoj hr (fun cs b => hg.sel j oj cs b hoj) pre a heasy h
        rcases hc with ⟨hw, hc⟩ | ⟨hw, hc⟩
        · rw [if_pos hw]
          refine .inl ?_
          unfold Oper.wp
          unfold callW at hc
          split at hc <;> rename_i e
          · rw [e]; exact K _ _ hc.2
          · rw [e]; exact K _ _ hc.2
          · rw [e]
            exact hc.mono fun e w'' ⟨v, he, hk⟩ => by subst he; exact K _ _ hk.2
          · exact hc.elim
        · rw [if_neg (by simp [hw])]
          exact K _ _ hc.2

def tailBS (md : Region.Mode) (ops : Array Oper) (M : List Nat) (L : Nat) : Bool :=
  decide (L + 1 = ops.size) && ((List.range L).all fun p => anc M p L) && Region.seqB md ops 1 L ((Array.replicate ops.size true).setIfInBounds L false)

/-- The walk along π, and the last one behind it. -/
theorem wp_region_dynS_tail {id : Nat} {Q : Exit → Act → World → Prop} {a : Act} {w : World} {l : List Oper} (S : Nat → Prop) (π : List Nat) (L : Nat) (hm : P.follows .mixedOrders = true) (hB : dynB .any l.toArray (masks .any l []) (π ++ [L]) = true)
    (hT : tailBS .any l.toArray (masks .any l []) L = true) (h : dynS S P l.toArray (fun _ a w => wpList P l.toArray Q (l.drop L) a w) π a w.drew) : (Code.region id l.toArray true).wp P Q a w := by
  have hg := good_of hB
  simp only [dynB, Bool.and_eq_true, List.all_eq_true, List.mem_range, decide_eq_true_eq] at hB
  obtain ⟨⟨⟨⟨⟨⟨h1, h2⟩, h3⟩, h4⟩, h5⟩, h6⟩, h7⟩ := hB
  simp only [tailBS, Bool.and_eq_true, List.all_eq_true, List.mem_range, decide_eq_true_eq] at hT
  obtain ⟨⟨t1, t2⟩, t3⟩ := hT
  have t1' : L + 1 = l.length := by simpa using t1
  have hLl : L < l.length := by omega
  have hdrop : l.drop L = [l[L]] := by rw [List.drop_eq_getElem_cons hLl, List.drop_eq_nil_of_le (by omega)]
  rw [hdrop] at h
  have hpw := List.pairwise_append.1 (pairsB_spec h4)
  have hne : ∀ i ∈ π, i ≠ L := fun i hi => (hpw.2.2 i hi L (by simp)).2
  have hlen : π.length + 1 = l.toArray.size := by simpa using h7
  refine wp_region_any hm ?_
  refine (fun key => ?_) (simST (S := S) (Q' := Q) hg (L := L) (oL := l[L]) (by simp) t1 t2 t3 _ π (Array.replicate l.toArray.size false) a { w with drawn := w.drawn + 1 } rfl ⟨by simp, fun j oj _ hl => (by rw [getD_replicate_false] at hl; cases hl)⟩ (fun i hi => ?_) hpw.1 (fun i hi => ?_) h)
  · rw [hlen] at key
    exact key
  · refine ⟨fun _ => by simpa using h6 i hi, fun _ => getD_in (by simpa using hi) (getD_replicate_false _ _)⟩
  · have := h5 i (by simp [hi])
    have := hne i hi
    omega
end
end Go.Proofs.YtaffaliplmfagaaGreatDoor.Calm

set_option linter.unusedVariables false
namespace Go.Proofs.YtaffaliplmfagaaGreatDoor.Calm
open Go Go.Proofs.YtaffaliplmfagaaGreatDoor.Own

section
variable {P : Program} {ops : Array Oper} {md : Region.Mode} {Q' : Exit → Act → World → Prop}

theorem simT {M : List Nat} (hg : Good md ops M) {L : Nat} {oL : Oper} (hL : ops[L]? = some oL) (hLs : L + 1 = ops.size) (hanc : ∀ p, p < L → anc M p L = true)
    (hfin : Region.seqB md ops 1 L ((Array.replicate ops.size true).setIfInBounds L false) = true) : ∀ (n : Nat) (rem : List Nat) (listed : Array Bool) (a : Act) (w : World), rem.length = n → Shut md ops listed →
    (∀ i, i < ops.size → (listed.getD i true = false ↔ i ∈ rem ∨ i = L)) → rem.Pairwise (fun p j => pairB md ops M p j = true ∧ p ≠ j) → (∀ i ∈ rem, i < L) →
    dyn P ops (fun _ a w => wpList P ops Q' [oL] a w) rem a w → wpAny P md ops Q' (n + 1) listed a w := by
  intro n
  induction n with
  | zero =>
    intro rem listed a w hn hs hl hpw hsz h
    obtain rfl : rem = [] := List.eq_nil_of_length_eq_zero hn
    have he : listed = (Array.replicate ops.size true).setIfInBounds L false := by
      refine Array.ext (by simpa using hs.size) fun i h1 h2 => ?_
      have hi : i < ops.size := by rw [← hs.size]; exact h1
      have := hl i hi
      simp only [List.not_mem_nil, false_or] at this
      rw [Array.getD_eq_getD_getElem?, Array.getElem?_eq_getElem h1, Option.getD_some] at this
      rw [Array.getElem_setIfInBounds (by simpa using hi)]
      by_cases hLi : L = i
      · rw [if_pos hLi]; exact this.2 hLi.symm
      · rw [if_neg hLi, Array.getElem_replicate]
        cases hx : listed[i] with
        | true => rfl
        | false => exact absurd (this.1 hx).symm hLi
    subst he
    refine wpAny_of_seq [oL] L _ a w (fun j => ?_) hfin (h w (Kept.refl No w))
    cases j with
    | zero => simpa using hL.symm
    | succ j => rw [Array.getElem?_eq_none (by omega)]; rfl
  | succ n ih =>
    intro rem listed a w hn hs hl hpw hsz h
    refine ⟨fun h0 => ?_, fun j hj => ?_⟩
    · exfalso
      cases rem with
      | nil => simp at hn
      | cons i r =>
        have hi := hsz i (by simp)
        have hi2 : i < ops.size := by omega
        have ho := Array.getElem?_eq_getElem hi2
        have hr : i ∈ Region.ready md ops listed := by
          refine mem_ready.2 ⟨(hl i hi2).2 (by simp), _, ho, fun e he hb => ?_⟩
          have hd : e.on ∈ deps md ops[i] := mem_deps.2 ⟨e, he, hb, rfl⟩
          have hlt := hg.below i _ ho _ hd
          cases hx : listed.getD e.on false with
          | true => rfl
          | false =>
            exfalso
            have hm := (hl e.on (by omega)).1 (getD_in (by rw [hs.size]; omega) hx)
            have hmr : e.on ∈ r := by
              rcases hm with hm | hm
              · rcases List.mem_cons.1 hm with h | h
                · omega
                · exact h
              · omega
            have hpr := ((List.pairwise_cons.1 hpw).1 _ hmr).1
            have ho2 := Array.getElem?_eq_getElem (show e.on < ops.size by omega)
            simp only [pairB, ho, ho2, Bool.and_eq_true, Bool.not_eq_true'] at hpr
            have := hpr.1
            simp only [List.contains_eq_mem, decide_eq_false_iff_not] at this
            exact this hd
        rw [h0] at hr
        cases hr
    · obtain ⟨h1, oj, hoj, hall⟩ := mem_ready.1 hj
      have hjs := (Array.getElem?_eq_some_iff.1 hoj).1
      have hjL : j ≠ L := by
        rintro rfl
        cases rem with
        | nil => simp at hn
        | cons i r =>
          have hi := hsz i (by simp)
          have h4 := anc_listed hg hs (show i < ops.size by omega) j oj hoj hall (hanc i hi)
          have h5 := (hl i (by omega)).2 (by simp)
          rw [getD_both h5] at h4
          cases h4
      have hjr := ((hl j hjs).1 h1).resolve_right hjL
      obtain ⟨pre, post, rfl⟩ := List.append_of_mem hjr
      have hpa := List.pairwise_append.1 hpw
      have hpc := List.pairwise_cons.1 hpa.2.1
      have heasy : ∀ p ∈ pre, Easy ops oj p := fun p hp => by
        have hps : p < ops.size := by have := hsz p (by simp [hp]); omega
        have ho := Array.getElem?_eq_getElem hps
        have hpr := (hpa.2.2 p hp j (by simp)).1
        simp only [pairB, ho, hoj, Bool.and_eq_true, Bool.or_eq_true] at hpr
        rcases hpr.2 with h | ⟨h2, h3⟩
        · have h4 := anc_listed hg hs hps j oj hoj hall h
          have h5 := (hl p hps).2 (by simp [hp])
          rw [getD_both h5] at h4
          cases h4
        · exact ⟨_, ho, h2, h3⟩
      have hjp : j ∉ pre ++ post := by
        intro hm
        rcases List.mem_append.1 hm with hm | hm
        · exact (hpa.2.2 j hm j (by simp)).2 rfl
        · exact (hpc.1 j hm).2 rfl
      have hs' : Shut md ops (listed.setIfInBounds j true) := ⟨by simpa using hs.size, fun k ok hk hlk e he hb => by
        by_cases hkj : k = j
        · subst hkj
          obtain rfl : ok = oj := Option.some.inj (hk.symm.trans hoj)
          exact getD_set_true (hall e he hb)
        · rw [getD_set_ne false (Ne.symm hkj)] at hlk
          exact getD_set_true (hs.closed k ok hk hlk e he hb)⟩
      have hl' : ∀ i, i < ops.size → ((listed.setIfInBounds j true).getD i true = false ↔ i ∈ pre ++ post ∨ i = L) := fun i hi => by
        by_cases hij : i = j
        · subst hij
          refine ⟨fun h => ?_, fun h => h.elim (fun h => absurd h hjp) (fun h => absurd h hjL)⟩
          have : i < listed.size := by rw [hs.size]; exact hi
          simp [this] at h
        · rw [getD_set_ne true (Ne.symm hij), hl i hi]
          simp [hij]
      have hpw' : (pre ++ post).Pairwise (fun p j => pairB md ops M p j = true ∧ p ≠ j) := List.pairwise_append.2 ⟨hpa.1, hpc.2, fun x hx y hy => hpa.2.2 x hx y (by simp [hy])⟩
      have hsz' : ∀ i ∈ pre ++ post, i < L := fun i hi => hsz i (by
        rcases List.mem_append.1 hi with h | h <;> simp [h])
      have hn' : (pre ++ post).length = n := by simp at hn ⊢; omega
      have K : ∀ a' w', dyn P ops (fun _ a w => wpList P ops Q' [oL] a w) (pre ++ post) a' w' → wpAny P md ops Q' (n + 1) (listed.setIfInBounds j true) a' w' := fun a' w' hd => ih _ _ a' w' hn' hs' hl' hpw' hsz' hd
      unfold wpOp
      simp only [hoj]
      cases hr : isRead oj with
      | true =>
        obtain ⟨v, hst, hd⟩ := dyn_pull_read hoj hr pre a heasy h
        rcases hst with ⟨hw, hv⟩ | ⟨hw, rfl⟩
        · rw [if_pos hw]
          refine .inl ?_
          unfold Oper.wp
          rcases hv w (Kept.refl No w) with e | ⟨e, rfl⟩
          · rw [e]; exact K _ _ hd
          · rw [e]; exact K _ _ hd
        · rw [if_neg (by simp [hw])]
          exact K _ _ hd
      | false =>
        have hc := dyn_pull_call hoj hr (fun cs b => hg.sel j oj cs b hoj) pre a heasy h
        rcases hc with ⟨hw, hc⟩ | ⟨hw, hc⟩
        · rw [if_pos hw]
          refine .inl ?_
          unfold Oper.wp
          unfold callW at hc
          split at hc <;> rename_i e
          · rw [e]; exact K _ _ hc.2
          · rw [e]; exact K _ _ hc.2
          · rw [e]
            exact hc.mono fun e w'' ⟨v, he, hk⟩ => by subst he; exact K _ _ hk.2
          · exact hc.elim
        · rw [if_neg (by simp [hw])]
          exact K _ _ hc.2

def tailB (md : Region.Mode) (ops : Array Oper) (M : List Nat) (L : Nat) : Bool :=
  decide (L + 1 = ops.size) && ((List.range L).all fun p => anc M p L) && Region.seqB md ops 1 L ((Array.replicate ops.size true).setIfInBounds L false)

/-- The walk along π, and the last one behind it. -/
theorem wp_region_dyn_tail {id : Nat} {Q : Exit → Act → World → Prop} {a : Act} {w : World} {l : List Oper} (π : List Nat) (L : Nat) (hm : P.follows .mixedOrders = true) (hB : dynB .any l.toArray (masks .any l []) (π ++ [L]) = true)
    (hT : tailB .any l.toArray (masks .any l []) L = true) (h : dyn P l.toArray (fun _ a w => wpList P l.toArray Q (l.drop L) a w) π a w) : (Code.region id l.toArray true).wp P Q a w := by
  have hg := good_of hB
  simp only [dynB, Bool.and_eq_true, List.all_eq_true, List.mem_range, decide_eq_true_eq] at hB
  obtain ⟨⟨⟨⟨⟨⟨h1, h2⟩, h3⟩, h4⟩, h5⟩, h6⟩, h7⟩ := hB
  simp only [tailB, Bool.and_eq_true, List.all_eq_true, List.mem_range, decide_eq_true_eq] at hT
  obtain ⟨⟨t1, t2⟩, t3⟩ := hT
  have t1' : L + 1 = l.length := by simpa using t1
  have hLl : L < l.length := by omega
  have hdrop : l.drop L = [l[L]] := by rw [List.drop_eq_getElem_cons hLl, List.drop_eq_nil_of_le (by omega)]
  rw [hdrop] at h
  have hpw := List.pairwise_append.1 (pairsB_spec h4)
  have hne : ∀ i ∈ π, i ≠ L := fun i hi => (hpw.2.2 i hi L (by simp)).2
  have hlen : π.length + 1 = l.toArray.size := by simpa using h7
  refine wp_region_any hm ?_
  refine (fun key => ?_) (simT (Q' := Q) hg (L := L) (oL := l[L]) (by simp) t1 t2 t3 _ π (Array.replicate l.toArray.size false) a { w with drawn := w.drawn + 1 } rfl ⟨by simp, fun j oj _ hl => (by rw [getD_replicate_false] at hl; cases hl)⟩ (fun i hi => ?_) hpw.1 (fun i hi => ?_) (dyn_mono π a w _ ((Kept.refl No w).drew) h))
  · rw [hlen] at key
    exact key
  · refine ⟨fun _ => by simpa using h6 i hi, fun _ => getD_in (by simpa using hi) (getD_replicate_false _ _)⟩
  · have := h5 i (by simp [hi])
    have := hne i hi
    omega
end
end Go.Proofs.YtaffaliplmfagaaGreatDoor.Calm
