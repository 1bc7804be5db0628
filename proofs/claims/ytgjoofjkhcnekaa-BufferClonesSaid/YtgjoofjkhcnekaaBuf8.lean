/-
  The walks of told and alive, the statements' own helpers over package buffer.
-/
import Derived.Test.YtgjoofjkhcnekaaBuf7
set_option linter.unusedVariables false
namespace Go.Proofs.Ytgjoofjkhcnekaa.Buf
open Go.RowKit Go.Conc Go.Proofs.Ytgjoofjkhcnekaa.Chan Go.Proofs.Ytgjoofjkhcnekaa.Own

set_option maxHeartbeats 2000000 in
set_option maxRecDepth 100000 in
theorem told_none (b c cap : Nat) (xs : List Ent) (v : Value) (pk pi pj gen : Int) (w : World) (h : Pt w b c cap xs) (hv : Rd w 8 v xs.length (ecs xs)) (hvc : ∀ g, v.ownBlock = some g → ¬ Only c g) (hc : xs.length ≤ cap) (hm : cap ≤ 4) (full : Bool) (hfull : (((xs.length : Nat) : Int) == (cap : Int)) = full)
    (hlo : lastOf xs pk pi pj gen = none) :
    Calls Try.prog 10 #[.pointer (some ⟨b, 0, .none⟩), v, .int .i64 cap, .agg #[.int .i64 pk, .int .i64 pi, .int .i64 pj], .int .i64 gen] w fun e w' => e = .returned (.bool true) ∧ Pt w' b c cap xs ∧ Kept (Only c) w w' := by
  have hv0 := hv
  obtain ⟨_, ao, ca, rfl, hca, hma, _, _⟩ := hv
  unfold maxLen at hma
  have hA := (Kept.refl No w).alloc (.cells #[.int .i64 pk, .int .i64 pi, .int .i64 pj] 31)
  have hp := h.kept hA id id
  have hvA := hv0.kept hA (fun _ _ => id)
  have hcl := h.2.1.lt
  have hl1 := last_some b c cap xs pk pi pj gen _ hp hc hm
  rw [hlo] at hl1
  simp only [wordOf, wv, Option.isSome_none] at hl1
  have HL1 := Lib.hid hl1
  have HLO := Lib.hid hlo
  have HF := Lib.hid hfull
  clear hl1 hlo hfull
  go_enter Try.func10, Try.ntmps10
  go_wp2_with fail
  refine HL1.out.mono ?_
  rintro e w1 ⟨rfl, hp1, hk1⟩
  have hbx : ∀ i, w1.cell? ⟨w.heap.size, i, none⟩ = (#[.int .i64 pk, .int .i64 pi, .int .i64 pj] : Array Value)[i]? := box_cells hcl hk1
  have b0 := hbx 0
  have b1 := hbx 1
  have b2 := hbx 2
  simp at b0 b1 b2
  have hv1 := hvA.kept hk1 hvc
  have hs1 := hk1.size
  rw [World.size_alloc] at hs1
  have hK1 : Kept (Only c) w w1 := (hA.mono (fun _ _ f => f.elim)).trans hk1 (fun _ _ h => h)
  have hA1 := (Kept.refl No w1).alloc (.cells #[.int .i64 0, .int .i64 0, .int .i64 0] 33)
  have c0 := (hA1.cell (p := ⟨w.heap.size, 0, none⟩) hs1 id).trans b0
  have c1 := (hA1.cell (p := ⟨w.heap.size, 1, none⟩) hs1 id).trans b1
  have c2 := (hA1.cell (p := ⟨w.heap.size, 2, none⟩) hs1 id).trans b2
  have hv1' := hv1.kept hA1 (fun _ _ => id)
  clear hbx b0 b1 b2 hk1
  go_wp2_with fail
  refine (last_is _ xs pk pi pj gen _ hv1').mono ?_
  rintro e w2 ⟨⟨rfl, _⟩ | ⟨n, x, rfl, hx, hl⟩, hk2⟩
  case inr => rw [HLO.out] at hl; cases hl
  have hsz2 := hk2.size
  rw [World.size_alloc] at hsz2
  have hA2 : Kept No w2 (w2.alloc (.cells #[.int .i64 0, .int .i64 0, .int .i64 0] 33)) := (Kept.refl No w2).alloc _
  have hz : ∀ i, (w2.alloc (.cells #[.int .i64 0, .int .i64 0, .int .i64 0] 33)).cell? ⟨w1.heap.size, i, none⟩ = (#[.int .i64 0, .int .i64 0, .int .i64 0] : Array Value)[i]? := fun i => by
    rw [hA2.cell (p := ⟨w1.heap.size, i, none⟩) hsz2 id, hk2.cell (p := ⟨w1.heap.size, i, none⟩) (by simp) id, World.cell?_alloc_new]
  have d0 := hz 0
  have d1 := hz 1
  have d2 := hz 2
  simp at d0 d1 d2
  have hp2 := ((hp1.kept hA1 id id).kept hk2 id id).kept hA2 id id
  have hv2 := (hv1'.kept hk2 (fun _ _ => id)).kept hA2 (fun _ _ => id)
  have hK2 : Kept (Only c) w (w2.alloc (.cells #[.int .i64 0, .int .i64 0, .int .i64 0] 33)) := (((hK1.alloc _).trans hk2 (fun _ _ f => f.elim)).alloc _)
  have hq : ∀ w, (binOp .eql 33 (.agg #[.int .i64 0, .int .i64 0, .int .i64 0]) (.agg #[.int .i64 0, .int .i64 0, .int .i64 0])).run Try.prog w = .ok (.bool true) w := fun w => eq_word w 0 0 0 0 0 0
  clear c0 c1 c2 hz hk2 hA2 hv1 hv1' hA1 hv0 hvA hA hp1 hp
  go_wp2_with fail
  refine (all_some b c cap xs _ hp2 hc hm).mono ?_
  rintro e w3 ⟨va, rfl, hs3, hp3, hk3⟩
  have hv3 := hv2.kept hk3 hvc
  have hK3 := hK2.trans hk3 (fun _ _ h => h)
  have hr3 := hs3.rd
  clear hv2 hk3 hK2 hp2 d0 d1 d2
  go_wp2_with fail
  refine (entries_same va _ xs _ hr3 hv3).mono ?_
  rintro e w4 ⟨rfl, k4, rfl⟩
  have hp4 : Pt (w3.drewN k4) b c cap xs := hp3
  go_wp2_with fail
  refine (len_some b c cap xs _ hp4).mono ?_
  rintro e w5 ⟨rfl, rfl⟩
  go_wp2_with fail
  refine (full_some b c cap xs _ hp4).mono ?_
  rintro e w6 ⟨rfl, k6, rfl⟩
  rw [HF.out]
  have hfull := HF.out
  go_wp2_with fail
  go_ret
  exact ⟨rfl, hp3, hK3.drewN _⟩
set_option maxHeartbeats 2000000 in
set_option maxRecDepth 100000 in
theorem told_some (b c cap : Nat) (xs : List Ent) (v : Value) (pk pi pj gen : Int) (w : World) (h : Pt w b c cap xs) (hv : Rd w 8 v xs.length (ecs xs)) (hvc : ∀ g, v.ownBlock = some g → ¬ Only c g) (hc : xs.length ≤ cap) (hm : cap ≤ 4) (full : Bool) (hfull : (((xs.length : Nat) : Int) == (cap : Int)) = full)
    (x0 : Ent) (hlo : lastOf xs pk pi pj gen = some x0) :
    Calls Try.prog 10 #[.pointer (some ⟨b, 0, .none⟩), v, .int .i64 cap, .agg #[.int .i64 pk, .int .i64 pi, .int .i64 pj], .int .i64 gen] w fun e w' => e = .returned (.bool true) ∧ Pt w' b c cap xs ∧ Kept (Only c) w w' := by
  have hv0 := hv
  obtain ⟨_, ao, ca, rfl, hca, hma, _, _⟩ := hv
  unfold maxLen at hma
  have hA := (Kept.refl No w).alloc (.cells #[.int .i64 pk, .int .i64 pi, .int .i64 pj] 31)
  have hp := h.kept hA id id
  have hvA := hv0.kept hA (fun _ _ => id)
  have hcl := h.2.1.lt
  have hl1 := last_some b c cap xs pk pi pj gen _ hp hc hm
  rw [hlo] at hl1
  simp only [wordOf, wv, Option.isSome_some] at hl1
  have HL1 := Lib.hid hl1
  have HLO := Lib.hid hlo
  have HF := Lib.hid hfull
  clear hl1 hlo hfull
  go_enter Try.func10, Try.ntmps10
  go_wp2_with fail
  refine HL1.out.mono ?_
  rintro e w1 ⟨rfl, hp1, hk1⟩
  have hbx : ∀ i, w1.cell? ⟨w.heap.size, i, none⟩ = (#[.int .i64 pk, .int .i64 pi, .int .i64 pj] : Array Value)[i]? := box_cells hcl hk1
  have b0 := hbx 0
  have b1 := hbx 1
  have b2 := hbx 2
  simp at b0 b1 b2
  have hv1 := hvA.kept hk1 hvc
  have hs1 := hk1.size
  rw [World.size_alloc] at hs1
  have hK1 : Kept (Only c) w w1 := (hA.mono (fun _ _ f => f.elim)).trans hk1 (fun _ _ h => h)
  have hA1 := (Kept.refl No w1).alloc (.cells #[.int .i64 x0.n, .int .i64 x0.c, .int .i64 x0.g] 33)
  have c0 := (hA1.cell (p := ⟨w.heap.size, 0, none⟩) hs1 id).trans b0
  have c1 := (hA1.cell (p := ⟨w.heap.size, 1, none⟩) hs1 id).trans b1
  have c2 := (hA1.cell (p := ⟨w.heap.size, 2, none⟩) hs1 id).trans b2
  have hv1' := hv1.kept hA1 (fun _ _ => id)
  clear hbx b0 b1 b2 hk1
  go_wp2_with fail
  refine (last_is _ xs pk pi pj gen _ hv1').mono ?_
  rintro e w2 ⟨⟨rfl, hl⟩ | ⟨n, x, rfl, hx, hl⟩, hk2⟩
  case inl => rw [HLO.out] at hl; cases hl
  obtain rfl : x0 = x := by rw [HLO.out] at hl; exact Option.some.inj hl
  have hnl : n < xs.length := (List.getElem?_eq_some_iff.1 hx).1
  have hxe : xs[n] = x0 := (List.getElem?_eq_some_iff.1 hx).2
  have hsz2 := hk2.size
  rw [World.size_alloc] at hsz2
  have hA2 : Kept No w2 (w2.alloc (.cells #[.int .i64 0, .int .i64 0, .int .i64 0] 33)) := (Kept.refl No w2).alloc _
  have hv2 := (hv1'.kept hk2 (fun _ _ => id)).kept hA2 (fun _ _ => id)
  have hv2' := hv2
  obtain ⟨_, ao2, ca2, he2, _, _, _, hR⟩ := hv2'
  cases he2
  obtain ⟨g, o, rfl, hgl, hR1⟩ := hR (by omega)
  have hcs := ent_cells hR1 n hnl
  rw [hxe] at hcs
  clear hR hR1
  obtain ⟨xk, xi, xj, xn, xc, xg, xgen, xpc⟩ := x0
  obtain ⟨a0, a1, a2, a3, a4, a5, a6, a7⟩ := hcs
  have hA3 : Kept No w2 (w2.alloc (.cells #[.int .i64 xn, .int .i64 xc, .int .i64 xg] 33)) := (Kept.refl No w2).alloc _
  have hz : ∀ i, (w2.alloc (.cells #[.int .i64 xn, .int .i64 xc, .int .i64 xg] 33)).cell? ⟨w1.heap.size, i, none⟩ = (#[.int .i64 xn, .int .i64 xc, .int .i64 xg] : Array Value)[i]? := fun i => by
    rw [hA3.cell (p := ⟨w1.heap.size, i, none⟩) hsz2 id, hk2.cell (p := ⟨w1.heap.size, i, none⟩) (by simp) id, World.cell?_alloc_new]
  have d0 := hz 0
  have d1 := hz 1
  have d2 := hz 2
  simp at d0 d1 d2
  have hp2 := ((hp1.kept hA1 id id).kept hk2 id id).kept hA3 id id
  have hv3' := (hv1'.kept hk2 (fun _ _ => id)).kept hA3 (fun _ _ => id)
  have hK2 : Kept (Only c) w (w2.alloc (.cells #[.int .i64 xn, .int .i64 xc, .int .i64 xg] 33)) := (((hK1.alloc _).trans hk2 (fun _ _ f => f.elim)).alloc _)
  have hq : ∀ w, (binOp .eql 33 (.agg #[.int .i64 xn, .int .i64 xc, .int .i64 xg]) (.agg #[.int .i64 xn, .int .i64 xc, .int .i64 xg])).run Try.prog w = .ok (.bool true) w := fun w => by rw [eq_word]; simp
  have hge : (0 : Int) ≤ (n : Int) := by omega
  have hlt : (n : Int) < (xs.length : Int) := by omega
  clear c0 c1 c2 hz hk2 hA2 hA3 hv1 hv1' hA1 hv0 hvA hA hp1 hp hv2 hxe hx hl HL1
  go_wp2_with fail
  refine (all_some b c cap xs _ hp2 hc hm).mono ?_
  rintro e w3 ⟨va, rfl, hs3, hp3, hk3⟩
  have hv3 := hv3'.kept hk3 hvc
  have hK3 := hK2.trans hk3 (fun _ _ h => h)
  have hr3 := hs3.rd
  clear hv3' hk3 hK2 hp2 d0 d1 d2
  go_wp2_with fail
  refine (entries_same va _ xs _ hr3 hv3).mono ?_
  rintro e w4 ⟨rfl, k4, rfl⟩
  have hp4 : Pt (w3.drewN k4) b c cap xs := hp3
  go_wp2_with fail
  refine (len_some b c cap xs _ hp4).mono ?_
  rintro e w5 ⟨rfl, rfl⟩
  go_wp2_with fail
  refine (full_some b c cap xs _ hp4).mono ?_
  rintro e w6 ⟨rfl, k6, rfl⟩
  rw [HF.out]
  have hfull := HF.out
  go_wp2_with fail
  go_ret
  exact ⟨rfl, hp3, hK3.drewN _⟩

theorem told_is (b c cap : Nat) (xs : List Ent) (v : Value) (pk pi pj gen : Int) (w : World) (h : Pt w b c cap xs) (hv : Rd w 8 v xs.length (ecs xs)) (hvc : ∀ g, v.ownBlock = some g → ¬ Only c g) (hc : xs.length ≤ cap) (hm : cap ≤ 4) :
    Calls Try.prog 10 #[.pointer (some ⟨b, 0, .none⟩), v, .int .i64 cap, .agg #[.int .i64 pk, .int .i64 pi, .int .i64 pj], .int .i64 gen] w fun e w' => e = .returned (.bool true) ∧ Pt w' b c cap xs ∧ Kept (Only c) w w' := by
  cases hlo : lastOf xs pk pi pj gen with
  | none => exact told_none b c cap xs v pk pi pj gen w h hv hvc hc hm _ rfl hlo
  | some x => exact told_some b c cap xs v pk pi pj gen w h hv hvc hc hm _ rfl x hlo

def e1 : Ent := ⟨1, 0, 0, 1, 0, 0, 0, 0⟩
def e2 : Ent := ⟨1, 0, 0, 2, 0, 0, 0, 0⟩
set_option maxHeartbeats 2000000 in
theorem alive_is (w : World) : Calls Try.prog 6 #[] w fun e w' => e = .returned (.bool true) ∧ Kept No w w' := by
  go_enter Try.func6, Try.ntmps6
  go_wp2_with fail
  refine (new_is 2 2 _ (by simp [near])).mono ?_
  rintro e w1 ⟨b, c, rfl, p1, hc, hb, k1⟩
  go_wp2_with fail
  refine (at_is 1 _).mono ?_
  rintro e w2 ⟨rfl, k2⟩
  have p2 := p1.kept k2 id id
  go_wp2_with fail
  refine (push_yes b c 2 [] e1 _ p2 (by simp)).mono ?_
  rintro e w3 ⟨rfl, p3, k3⟩
  go_wp2_with fail
  refine (at_is 2 _).mono ?_
  rintro e w4 ⟨rfl, k4⟩
  have p4 := p3.kept k4 id id
  go_wp2_with fail
  refine (push_yes b c 2 [e1] e2 _ p4 (by simp)).mono ?_
  rintro e w5 ⟨rfl, p5, k5⟩
  go_wp2_with fail
  refine (at_is 3 _).mono ?_
  rintro e w6 ⟨rfl, k6⟩
  have p6 := p5.kept k6 id id
  go_wp2_with fail
  refine (push_no b c 2 [e1, e2] ⟨1, 0, 0, 3, 0, 0, 0, 0⟩ _ p6 (by simp)).mono ?_
  rintro e w7 ⟨rfl, p7, k7⟩
  have hT : ∀ k, k < w.heap.size → Only c k → No k := fun k hk h => by simp only [Only] at h; omega
  have hN : ∀ k, k < w.heap.size → No k → No k := fun _ _ f => f
  have K7 : Kept No w w7 := ((((((k1.trans k2 hN).trans k3 hT).trans k4 hN).trans k5 hT).trans k6 hN).trans k7 hT)
  clear k1 k2 k3 k4 k5 k6 k7 p1 p2 p3 p4 p5 p6
  go_wp2_with fail
  refine (last_some b c 2 [e1, e2] 1 0 0 0 _ p7 (by simp) (by omega)).mono ?_
  rintro e w8 ⟨rfl, p8, k8⟩
  rw [show wv (wordOf (lastOf [e1, e2] 1 0 0 0)) = #[.int .i64 2, .int .i64 0, .int .i64 0] by rfl, show (lastOf [e1, e2] 1 0 0 0).isSome = true by rfl]
  have K8 := K7.trans k8 hT
  have pA := p8.kept ((Kept.refl No w8).alloc (.cells #[.int .i64 2, .int .i64 0, .int .i64 0] 33)) id id
  have hcl := p8.2.1.lt
  clear k8 K7 p7 p8
  go_wp2_with fail
  refine (pop_yes b c 2 [e2] e1 _ pA).mono ?_
  rintro e w9 ⟨rfl, p9, k9⟩
  have K9 := (K8.alloc (.cells #[.int .i64 2, .int .i64 0, .int .i64 0] 33)).trans k9 hT
  have hbx := fun i => box_cells hcl k9 i
  have x0 := hbx 0
  simp at x0
  have hs9 := k9.size
  rw [World.size_alloc] at hs9
  have hA9 := (Kept.refl No w9).alloc (.cells #[.int .i64 1, .int .i64 0, .int .i64 0, .int .i64 1, .int .i64 0, .int .i64 0, .int .i64 0, .int .i64 0] 35)
  have y0 := (hA9.cell (p := ⟨w8.heap.size, 0, none⟩) hs9 id).trans x0
  have pB := p9.kept hA9 id id
  simp only [Ent.v, e1]
  clear hbx x0 k9 K8 hA9
  go_wp2_with fail
  refine (len_some b c 2 [e2] _ pB).mono ?_
  rintro e w' ⟨rfl, rfl⟩
  go_wp2_with fail
  go_ret
  exact ⟨rfl, K9.alloc _⟩
end Go.Proofs.Ytgjoofjkhcnekaa.Buf
