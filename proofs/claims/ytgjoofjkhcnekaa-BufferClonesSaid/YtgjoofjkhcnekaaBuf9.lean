/-
  The walk of run, the statements' own helper over package buffer: one call on a buffer and on a list: they answer alike.
-/
import Derived.Test.YtgjoofjkhcnekaaBuf8
set_option linter.unusedVariables false
namespace Go.Proofs.Ytgjoofjkhcnekaa.Buf
open Go.RowKit Go.Conc Go.Proofs.Ytgjoofjkhcnekaa.Chan Go.Proofs.Ytgjoofjkhcnekaa.Own

/-- A call: what kind, and an entry. -/
def opv (kind : Int) (e : Ent) : Value := .agg #[.int .i64 kind, .int .i64 e.k, .int .i64 e.i, .int .i64 e.j, .int .i64 e.n, .int .i64 e.c, .int .i64 e.g, .int .i64 e.gen, .int .i64 e.pc]
def opcs (kind : Int) (e : Ent) : Array Value := #[.int .i64 kind, .int .i64 e.k, .int .i64 e.i, .int .i64 e.j, .int .i64 e.n, .int .i64 e.c, .int .i64 e.g, .int .i64 e.gen, .int .i64 e.pc]

def step (cap : Nat) (xs : List Ent) (kind : Int) (e : Ent) : List Ent :=
  if kind = 1 then xs.tail else if xs.length < cap then xs ++ [e] else xs
theorem step_len (cap : Nat) (xs : List Ent) (kind : Int) (e : Ent) (h : xs.length ≤ cap) : (step cap xs kind e).length ≤ cap := by
  unfold step
  split
  · simp; omega
  · split
    · simp; omega
    · exact h

def RunPost (w : World) (B b c cap : Nat) (ys : List Ent) (v : Value) (e : Ending) (w' : World) : Prop :=
  ∃ v', e = .returned (.tuple #[v', .bool true]) ∧ Pt w' b c cap ys ∧ Seg w' B 35 8 v' ys.length (ecs ys) ∧ Kept (Two c v) w w' ∧ ∀ g, v'.ownBlock = some g → v.ownBlock = some g ∨ w.heap.size ≤ g
theorem two_of_only {c : Nat} {v : Value} : ∀ k, Only c k → Two c v k := fun _ h => .inl h

set_option maxHeartbeats 1000000 in
theorem run_pop_none (B b c cap : Nat) (v : Value) (x : Ent) (w : World) (h : Pt w b c cap []) (hv : Seg w B 35 8 v 0 []) (hvc : ∀ g, v.ownBlock = some g → ¬ Only c g) :
    Calls Try.prog 9 #[.pointer (some ⟨b, 0, .none⟩), v, .int .i64 cap, opv 1 x] w (RunPost w B b c cap [] v) := by
  have hv0 := hv
  obtain ⟨_, ao, ca, rfl, hca, hma, _, _⟩ := hv.rd
  unfold maxLen at hma
  have hA := (Kept.refl No w).alloc (.cells (opcs 1 x) 37)
  have hp := h.kept hA id id
  have hcl := h.2.1.lt
  obtain ⟨xk, xi, xj, xn, xc, xg, xgen, xpc⟩ := x
  simp only [opv, opcs] at hA hp ⊢
  have hq : ∀ w, (binOp .eql 35 (.agg #[.int .i64 0, .int .i64 0, .int .i64 0, .int .i64 0, .int .i64 0, .int .i64 0, .int .i64 0, .int .i64 0]) (.agg #[.int .i64 0, .int .i64 0, .int .i64 0, .int .i64 0, .int .i64 0, .int .i64 0, .int .i64 0, .int .i64 0])).run Try.prog w = .ok (.bool true) w := fun w => eq_ent w zero zero
  go_enter Try.func9, Try.ntmps9
  go_wp2_with fail
  refine (pop_no b c cap _ hp).mono ?_
  rintro e w1 ⟨rfl, hp1, hk1⟩
  have hK : Kept (Only c) w w1 := (hA.mono (fun _ _ f => f.elim)).trans hk1 (fun _ _ h => h)
  have hA1 := (Kept.refl No w1).alloc (.cells #[.int .i64 0, .int .i64 0, .int .i64 0, .int .i64 0, .int .i64 0, .int .i64 0, .int .i64 0, .int .i64 0] 35)
  simp only [Ent.v, zero]
  clear hp h
  go_wp2_with fail
  go_ret2
  exact ⟨_, rfl, hp1.kept hA1 id id, hv0.kept (hK.alloc _) hvc, (hK.alloc _).mono (fun k _ h => two_of_only k h), fun g hg => .inl hg⟩

set_option maxHeartbeats 1000000 in
theorem run_pop_some (B b c cap : Nat) (v : Value) (e0 : Ent) (xs : List Ent) (x : Ent) (w : World) (h : Pt w b c cap (e0 :: xs)) (hv : Seg w B 35 8 v (e0 :: xs).length (ecs (e0 :: xs))) (hvc : ∀ g, v.ownBlock = some g → ¬ Only c g) :
    Calls Try.prog 9 #[.pointer (some ⟨b, 0, .none⟩), v, .int .i64 cap, opv 1 x] w (RunPost w B b c cap xs v) := by
  have hv0 := hv
  obtain ⟨_, ⟨_, hh⟩ | ⟨g, o, ca, cur, rfl, hB, hg, hle, hmax, hcs, hx⟩⟩ := hv
  · simp at hh
  have hgc : g ≠ c := fun e => hvc g rfl e
  unfold maxLen at hmax
  have hA := (Kept.refl No w).alloc (.cells (opcs 1 x) 37)
  have hp := h.kept hA id id
  have hn : (e0 :: xs).length = xs.length + 1 := rfl
  have hglt : g < w.heap.size := (Array.getElem?_eq_some_iff.1 hg).1
  have hR1 : ∀ j u, (ecs (e0 :: xs))[j]? = some u → w.cell? ⟨g, o + j, none⟩ = some u := fun j u hu => by
    have hj : j < (e0 :: xs).length * 8 := by rw [← ecs_len]; exact (List.getElem?_eq_some_iff.1 hu).1
    simp [World.cell?, hg, hx j hj, hu]
  have hcs0 := ent_cells hR1 0 (by simp)
  simp only [List.getElem_cons_zero, Nat.zero_mul, Nat.add_zero] at hcs0
  rw [hn] at hle hx ⊢
  have hxt : ∀ j, j < xs.length * 8 → cur[o + 8 + j]? = (ecs xs)[j]? := by
    intro j hj
    have := hx (j + 8) (by omega)
    rw [show o + (j + 8) = o + 8 + j by omega] at this
    rw [this, ecs_cons, List.getElem?_append_right (by simp [vals, Ent.zs])]
    simp [vals, Ent.zs]
  have hgw : ∀ w1, Kept (Only c) w w1 → w1.heap[g]? = some (.cells cur 35 (0, 0)) := fun w1 hk => (hk.block g hglt hgc).trans hg
  have Hxt := Lib.hid hxt
  have Hgw := Lib.hid hgw
  have hcl := h.2.1.lt
  clear hxt hgw hx hR1
  have hkc : ∀ w1, Kept (Only c) w w1 → ∀ i u, w.cell? ⟨g, i, none⟩ = some u → w1.cell? ⟨g, i, none⟩ = some u := fun w1 hk i u hu => (hk.cell (p := ⟨g, i, none⟩) hglt hgc).trans hu
  obtain ⟨a0, a1, a2, a3, a4, a5, a6, a7⟩ := hcs0
  obtain ⟨xk, xi, xj, xn, xc, xg, xgen, xpc⟩ := x
  obtain ⟨yk, yi, yj, yn, yc, yg, ygen, ypc⟩ := e0
  simp only [opv, opcs] at hA hp ⊢
  have hq : ∀ w, (binOp .eql 35 (.agg #[.int .i64 yk, .int .i64 yi, .int .i64 yj, .int .i64 yn, .int .i64 yc, .int .i64 yg, .int .i64 ygen, .int .i64 ypc]) (.agg #[.int .i64 yk, .int .i64 yi, .int .i64 yj, .int .i64 yn, .int .i64 yc, .int .i64 yg, .int .i64 ygen, .int .i64 ypc])).run Try.prog w = .ok (.bool true) w := fun w => by
    have := eq_ent w ⟨yk, yi, yj, yn, yc, yg, ygen, ypc⟩ ⟨yk, yi, yj, yn, yc, yg, ygen, ypc⟩
    rw [same_self] at this
    exact this
  by_cases h1 : ca = 1
  · subst h1
    obtain rfl : xs = [] := List.eq_nil_of_length_eq_zero (by omega)
    go_enter Try.func9, Try.ntmps9
    go_wp2_with fail
    refine (pop_yes b c cap [] ⟨yk, yi, yj, yn, yc, yg, ygen, ypc⟩ _ hp).mono ?_
    rintro e w1 ⟨rfl, hp1, hk1⟩
    have hK : Kept (Only c) w (w1.alloc (.cells #[.int .i64 yk, .int .i64 yi, .int .i64 yj, .int .i64 yn, .int .i64 yc, .int .i64 yg, .int .i64 ygen, .int .i64 ypc] 35)) := ((hA.mono (fun _ _ f => f.elim)).trans hk1 (fun _ _ h => h)).alloc _
    have c0 := hkc _ hK _ _ a0
    have c1 := hkc _ hK _ _ a1
    have c2 := hkc _ hK _ _ a2
    have c3 := hkc _ hK _ _ a3
    have c4 := hkc _ hK _ _ a4
    have c5 := hkc _ hK _ _ a5
    have c6 := hkc _ hK _ _ a6
    have c7 := hkc _ hK _ _ a7
    have hpA := hp1.kept ((Kept.refl No w1).alloc (.cells #[.int .i64 yk, .int .i64 yi, .int .i64 yj, .int .i64 yn, .int .i64 yc, .int .i64 yg, .int .i64 ygen, .int .i64 ypc] 35)) id id
    simp only [Ent.v]
    clear hp h hkc a0 a1 a2 a3 a4 a5 a6 a7
    go_wp2_with fail
    go_quiet (fail)
    go_wp2
    go_ret2
    exact ⟨_, rfl, hpA, ⟨rfl, .inr ⟨g, _, 0, cur, rfl, hB, Hgw.out _ (hK.drewN nq), by simp, by simp [maxLen], by omega, fun j hj => by simp at hj⟩⟩, (hK.drewN nq).mono (fun k _ h => two_of_only k h), fun g' hg' => .inl hg'⟩
  · go_enter Try.func9, Try.ntmps9
    go_wp2_with fail
    refine (pop_yes b c cap xs ⟨yk, yi, yj, yn, yc, yg, ygen, ypc⟩ _ hp).mono ?_
    rintro e w1 ⟨rfl, hp1, hk1⟩
    have hK : Kept (Only c) w (w1.alloc (.cells #[.int .i64 yk, .int .i64 yi, .int .i64 yj, .int .i64 yn, .int .i64 yc, .int .i64 yg, .int .i64 ygen, .int .i64 ypc] 35)) := ((hA.mono (fun _ _ f => f.elim)).trans hk1 (fun _ _ h => h)).alloc _
    have c0 := hkc _ hK _ _ a0
    have c1 := hkc _ hK _ _ a1
    have c2 := hkc _ hK _ _ a2
    have c3 := hkc _ hK _ _ a3
    have c4 := hkc _ hK _ _ a4
    have c5 := hkc _ hK _ _ a5
    have c6 := hkc _ hK _ _ a6
    have c7 := hkc _ hK _ _ a7
    have hpA := hp1.kept ((Kept.refl No w1).alloc (.cells #[.int .i64 yk, .int .i64 yi, .int .i64 yj, .int .i64 yn, .int .i64 yc, .int .i64 yg, .int .i64 ygen, .int .i64 ypc] 35)) id id
    simp only [Ent.v]
    clear hp h hkc a0 a1 a2 a3 a4 a5 a6 a7
    go_wp2_with fail
    go_quiet (fail)
    go_wp2
    go_ret2
    exact ⟨_, rfl, hpA, ⟨ecs_len _, .inr ⟨g, o + 8, ca - 1, cur, rfl, hB, Hgw.out _ (hK.drewN nq), by omega, by unfold maxLen; omega, by omega, Hxt.out⟩⟩, (hK.drewN nq).mono (fun k _ h => two_of_only k h), fun g' hg' => .inl hg'⟩

set_option maxHeartbeats 1000000 in
theorem run_push_full (B b c cap : Nat) (v : Value) (xs : List Ent) (kind : Int) (x : Ent) (w : World) (h : Pt w b c cap xs) (hv : Seg w B 35 8 v xs.length (ecs xs)) (hvc : ∀ g, v.ownBlock = some g → ¬ Only c g) (hc : xs.length ≤ cap) (hm : cap ≤ 4)
    (k1 : (kind == 1) = false) (k2 : (kind != 1) = true) (hf : ¬ xs.length < cap) :
    Calls Try.prog 9 #[.pointer (some ⟨b, 0, .none⟩), v, .int .i64 cap, opv kind x] w (RunPost w B b c cap xs v) := by
  have hv0 := hv
  obtain ⟨_, ao, ca, rfl, hca, hma, _, _⟩ := hv.rd
  unfold maxLen at hma
  have hA := (Kept.refl No w).alloc (.cells (opcs kind x) 37)
  have hp := h.kept hA id id
  obtain ⟨xk, xi, xj, xn, xc, xg, xgen, xpc⟩ := x
  simp only [opv, opcs] at hA hp ⊢
  go_enter Try.func9, Try.ntmps9
  go_wp2_with fail
  refine (push_no b c cap xs ⟨xk, xi, xj, xn, xc, xg, xgen, xpc⟩ _ hp (by omega)).mono ?_
  rintro e w1 ⟨rfl, hp1, hk1⟩
  have hK : Kept (Only c) w w1 := (hA.mono (fun _ _ f => f.elim)).trans hk1 (fun _ _ h => h)
  go_wp2_with fail
  go_ret2
  exact ⟨_, rfl, hp1, hv0.kept hK hvc, hK.mono (fun k _ h => two_of_only k h), fun g hg => .inl hg⟩

set_option maxHeartbeats 1000000 in
theorem run_push_room (B b c cap : Nat) (v : Value) (xs : List Ent) (kind : Int) (x : Ent) (w : World) (hBw : B ≤ w.heap.size) (h : Pt w b c cap xs) (hv : Seg w B 35 8 v xs.length (ecs xs)) (hvc : ∀ g, v.ownBlock = some g → ¬ Only c g) (hvb : ∀ g, v.ownBlock = some g → g ≠ b) (hm : cap ≤ 4)
    (k1 : (kind == 1) = false) (k2 : (kind != 1) = true) (hf : xs.length < cap) :
    Calls Try.prog 9 #[.pointer (some ⟨b, 0, .none⟩), v, .int .i64 cap, opv kind x] w (RunPost w B b c cap (xs ++ [x]) v) := by
  have hv0 := hv
  obtain ⟨i0, hi, hz0, hz1, hz2⟩ := info_parts info_ent
  obtain ⟨_, ao, ca, rfl, hca, hma, _, _⟩ := hv.rd
  unfold maxLen at hma
  have hA := (Kept.refl No w).alloc (.cells (opcs kind x) 37)
  have hp := h.kept hA id id
  have hcl : c < w.heap.size := h.2.1.lt
  obtain ⟨xk, xi, xj, xn, xc, xg, xgen, xpc⟩ := x
  simp only [opv, opcs] at hA hp ⊢
  go_enter Try.func9, Try.ntmps9
  go_wp2_with fail
  refine (push_yes b c cap xs ⟨xk, xi, xj, xn, xc, xg, xgen, xpc⟩ _ hp hf).mono ?_
  rintro e w1 ⟨rfl, hp1, hk1⟩
  have hK : Kept (Only c) w w1 := (hA.mono (fun _ _ f => f.elim)).trans hk1 (fun _ _ h => h)
  have hv1 := hv0.kept hK hvc
  have hbx := fun i => box_cells hcl hk1 i
  have z1 := hbx 1
  have z2 := hbx 2
  have z3 := hbx 3
  have z4 := hbx 4
  have z5 := hbx 5
  have z6 := hbx 6
  have z7 := hbx 7
  have z8 := hbx 8
  simp at z1 z2 z3 z4 z5 z6 z7 z8
  have hsz := hk1.size
  rw [World.size_alloc] at hsz
  clear hp h hbx
  go_wp2_with (at_builtin; refine wpList_append_seg rfl _ _ 27 rfl B 35 i0 zero.v 8 64 Try.underlying27 hi hz0 hz1 hz2 rfl (by decide) _ _ _ rfl (hv1.kept ((Kept.refl No _).alloc _) (fun _ _ f => f.elim)) ⟨_, 0, none⟩ 1 1 (vals (Ent.mk xk xi xj xn xc xg xgen xpc).zs) rfl rfl ?c1 ?c2 ?c3 ?c4 ?c5 ?_)
  case c1 => exact cells_new _ _ _
  case c2 => exact one_ints _
  case c3 => unfold maxLen; omega
  case c4 => omega
  case c5 => simp; omega
  intro v3 w3 hs3 hg3 hb3
  have hK3 : Kept (Two c (.slice ao xs.length ca)) w w3 := ((hK.alloc _).mono (fun k _ h => two_of_only k h)).grown hg3 (fun g _ hg => .inr hg)
  have hp3 : Pt w3 b c cap (xs ++ [⟨xk, xi, xj, xn, xc, xg, xgen, xpc⟩]) := by
    have h1 := hp1.kept ((Kept.refl No w1).alloc (.cells #[.int .i64 xk, .int .i64 xi, .int .i64 xj, .int .i64 xn, .int .i64 xc, .int .i64 xg, .int .i64 xgen, .int .i64 xpc] 35)) id id
    have hgk := (Kept.refl (fun k => (Value.slice ao xs.length ca).ownBlock = some k) (w1.alloc (.cells #[.int .i64 xk, .int .i64 xi, .int .i64 xj, .int .i64 xn, .int .i64 xc, .int .i64 xg, .int .i64 xgen, .int .i64 xpc] 35))).grown hg3 (fun k _ hk => hk)
    exact h1.kept hgk (fun hb => hvb b hb rfl) (fun hc' => hvc c hc' rfl)
  have hsz3 := hg3.size
  clear hp1 hv1 hg3 hk1 z1 z2 z3 z4 z5 z6 z7 z8
  go_wp2_with fail
  go_ret2
  refine ⟨_, rfl, hp3, ?_, hK3, fun g hg => ?_⟩
  · rw [ecs_app, List.length_append]
    exact hs3
  · rcases hb3 g hg with h | h
    · exact .inl h
    · exact .inr (by first | omega | (simp at h; omega))
end Go.Proofs.Ytgjoofjkhcnekaa.Buf
