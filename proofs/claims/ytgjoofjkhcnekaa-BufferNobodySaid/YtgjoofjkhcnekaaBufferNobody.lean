/-
  BufferNobody answers true, whatever the entry is: nil, and a buffer that New did not make, have nothing, and are full. Condition: none.
-/
import Derived.Test.YtgjoofjkhcnekaaBuf10
import Derived.Test.YtgjoofjkhcnekaaOpen
set_option linter.unusedVariables false
namespace Go.Proofs.Ytgjoofjkhcnekaa.bufferNobody
open Go.RowKit Go.Conc Go.Proofs.Ytgjoofjkhcnekaa.Chan Go.Proofs.Ytgjoofjkhcnekaa.Own Go.Proofs.Ytgjoofjkhcnekaa.Buf

theorem box8 {w : World} {b : Nat} {t : TypeId} {a0 a1 a2 a3 a4 a5 a6 a7 : Value} (h : Box w b #[a0, a1, a2, a3, a4, a5, a6, a7] t) :
    w.cell? ⟨b, 0, none⟩ = some a0 ∧ w.cell? ⟨b, 1, none⟩ = some a1 ∧ w.cell? ⟨b, 2, none⟩ = some a2 ∧ w.cell? ⟨b, 3, none⟩ = some a3 ∧ w.cell? ⟨b, 4, none⟩ = some a4 ∧ w.cell? ⟨b, 5, none⟩ = some a5 ∧ w.cell? ⟨b, 6, none⟩ = some a6 ∧ w.cell? ⟨b, 7, none⟩ = some a7 :=
  ⟨h.cell 0, h.cell 1, h.cell 2, h.cell 3, h.cell 4, h.cell 5, h.cell 6, h.cell 7⟩

set_option maxHeartbeats 4000000 in
set_option maxRecDepth 100000 in
theorem walk (w : World) (zs : List Int) (hl : zs.length = Try.prog.cellsOf 35) (wf0 : ∀ z ∈ zs, (Lit.int .i64 z).wf = true) :
    Calls Try.prog 5 #[.agg (vals zs).toArray] w fun e w' => e = .returned (.bool true) ∧ Below w.heap.size w w' := by
  have hl8 : zs.length = 8 := hl.trans (by kernel_rfl)
  match zs, hl8 with
  | [xk, xi, xj, xn, xc, xg, xgen, xpc], _ =>
  clear hl wf0
  simp only [vals, List.map_cons, List.map_nil]
  have hqe : ∀ w, (binOp .eql 35 (.agg #[.int .i64 0, .int .i64 0, .int .i64 0, .int .i64 0, .int .i64 0, .int .i64 0, .int .i64 0, .int .i64 0]) (.agg #[.int .i64 0, .int .i64 0, .int .i64 0, .int .i64 0, .int .i64 0, .int .i64 0, .int .i64 0, .int .i64 0])).run Try.prog w = .ok (.bool true) w := fun w => eq_ent w zero zero
  have hqw : ∀ w, (binOp .eql 33 (.agg #[.int .i64 0, .int .i64 0, .int .i64 0]) (.agg #[.int .i64 0, .int .i64 0, .int .i64 0])).run Try.prog w = .ok (.bool true) w := fun w => eq_word w 0 0 0 0 0 0
  have hB0 := Box.new w #[.int .i64 xk, .int .i64 xi, .int .i64 xj, .int .i64 xn, .int .i64 xc, .int .i64 xg, .int .i64 xgen, .int .i64 xpc] 35
  have hk0 := (Kept.refl No w).alloc (.cells #[.int .i64 xk, .int .i64 xi, .int .i64 xj, .int .i64 xn, .int .i64 xc, .int .i64 xg, .int .i64 xgen, .int .i64 xpc] 35)
  go_enter Try.func5, Try.ntmps5
  go_wp2_with fail
  refine (alive_is _).mono ?_
  rintro e w1 ⟨rfl, k1⟩
  have b1 := (hB0.kept k1 id).alloc (.cells #[.chan none] 45)
  have hodd1 : Box (w1.alloc (.cells #[.chan none] 45)) w1.heap.size #[.chan none] 45 := Box.new _ _ _
  have K1 := (hk0.trans k1 (fun _ _ f => f)).alloc (.cells #[.chan none] 45)
  clear hB0 hk0 k1
  go_wp2_with fail
  refine (pop_nil _).mono ?_
  rintro e w2 ⟨rfl, k2⟩
  have b2 := (b1.kept k2 id).alloc (.cells #[.int .i64 0, .int .i64 0, .int .i64 0, .int .i64 0, .int .i64 0, .int .i64 0, .int .i64 0, .int .i64 0] 35)
  have hodd2 := (hodd1.kept k2 id).alloc (.cells #[.int .i64 0, .int .i64 0, .int .i64 0, .int .i64 0, .int .i64 0, .int .i64 0, .int .i64 0, .int .i64 0] 35)
  have hA2 := Box.new w2 #[.int .i64 0, .int .i64 0, .int .i64 0, .int .i64 0, .int .i64 0, .int .i64 0, .int .i64 0, .int .i64 0] 35
  have K2 := (K1.trans k2 (fun _ _ f => f)).alloc (.cells #[.int .i64 0, .int .i64 0, .int .i64 0, .int .i64 0, .int .i64 0, .int .i64 0, .int .i64 0, .int .i64 0] 35)
  clear b1 hodd1 K1 k2
  simp only [Ent.v, zero]
  go_wp2_with fail
  refine (pop_odd _ _ (hodd2.cell 0)).mono ?_
  rintro e w3 ⟨rfl, k3⟩
  have b3 := (b2.kept k3 id).alloc (.cells #[.int .i64 0, .int .i64 0, .int .i64 0, .int .i64 0, .int .i64 0, .int .i64 0, .int .i64 0, .int .i64 0] 35)
  have hodd3 := (hodd2.kept k3 id).alloc (.cells #[.int .i64 0, .int .i64 0, .int .i64 0, .int .i64 0, .int .i64 0, .int .i64 0, .int .i64 0, .int .i64 0] 35)
  have hA3 := (hA2.kept k3 id).alloc (.cells #[.int .i64 0, .int .i64 0, .int .i64 0, .int .i64 0, .int .i64 0, .int .i64 0, .int .i64 0, .int .i64 0] 35)
  have hC3 := Box.new w3 #[.int .i64 0, .int .i64 0, .int .i64 0, .int .i64 0, .int .i64 0, .int .i64 0, .int .i64 0, .int .i64 0] 35
  have K3 := (K2.trans k3 (fun _ _ f => f)).alloc (.cells #[.int .i64 0, .int .i64 0, .int .i64 0, .int .i64 0, .int .i64 0, .int .i64 0, .int .i64 0, .int .i64 0] 35)
  clear b2 hodd2 K2 k3 hA2
  simp only [Ent.v, zero]
  obtain ⟨x0, x1, x2, x3, x4, x5, x6, x7⟩ := box8 b3
  go_wp2_with fail
  refine (last_odd _ xk xi xj xgen _ (hodd3.cell 0)).mono ?_
  rintro e w4 ⟨rfl, k4⟩
  have b4 := (b3.kept k4 id).alloc (.cells #[.int .i64 0, .int .i64 0, .int .i64 0] 33)
  have hodd4 := (hodd3.kept k4 id).alloc (.cells #[.int .i64 0, .int .i64 0, .int .i64 0] 33)
  have hA4 := (hA3.kept k4 id).alloc (.cells #[.int .i64 0, .int .i64 0, .int .i64 0] 33)
  have hC4 := (hC3.kept k4 id).alloc (.cells #[.int .i64 0, .int .i64 0, .int .i64 0] 33)
  have hD4 := Box.new w4 #[.int .i64 0, .int .i64 0, .int .i64 0] 33
  have K4 := (K3.trans k4 (fun _ _ f => f)).alloc (.cells #[.int .i64 0, .int .i64 0, .int .i64 0] 33)
  clear b3 hodd3 K3 k4 hA3 hC3 x0 x1 x2 x3 x4 x5 x6 x7
  obtain ⟨x0, x1, x2, x3, x4, x5, x6, x7⟩ := box8 b4
  go_wp2_with fail
  refine (push_nil ⟨xk, xi, xj, xn, xc, xg, xgen, xpc⟩ _).mono ?_
  rintro e w5 ⟨rfl, k5⟩
  have b5 := b4.kept k5 id
  have hodd5 := hodd4.kept k5 id
  have hA5 := hA4.kept k5 id
  have hC5 := hC4.kept k5 id
  have hD5 := hD4.kept k5 id
  have K5 := K4.trans k5 (fun _ _ f => f)
  clear b4 hodd4 K4 k5 hA4 hC4 hD4 x0 x1 x2 x3 x4 x5 x6 x7
  obtain ⟨x0, x1, x2, x3, x4, x5, x6, x7⟩ := box8 b5
  go_wp2_with fail
  refine (push_odd _ ⟨xk, xi, xj, xn, xc, xg, xgen, xpc⟩ _ (hodd5.cell 0)).mono ?_
  rintro e w6 ⟨rfl, k6⟩
  have hodd6 := (hodd5.kept k6 id).cell 0
  have hA6 := hA5.kept k6 id
  have hC6 := hC5.kept k6 id
  have hD6 := hD5.kept k6 id
  have K6 := K5.trans k6 (fun _ _ f => f)
  simp only [List.getElem?_toArray, List.getElem?_cons_zero] at hodd6
  clear b5 hodd5 K5 k6 hA5 hC5 hD5 x0 x1 x2 x3 x4 x5 x6 x7
  obtain ⟨x0, x1, x2, x3, x4, x5, x6, x7⟩ := box8 hA6
  obtain ⟨y0, y1, y2, y3, y4, y5, y6, y7⟩ := box8 hC6
  have z0 := hD6.cell 0
  have z1 := hD6.cell 1
  have z2 := hD6.cell 2
  simp at z0 z1 z2
  clear hA6 hC6 hD6
  go_wp2_with fail
  refine (len_nil _).mono ?_
  rintro e w' ⟨rfl, rfl⟩
  go_wp2_with fail
  refine (len_odd _ _ hodd6).mono ?_
  rintro e w' ⟨rfl, rfl⟩
  go_wp2_with fail
  refine (all_nil _).mono ?_
  rintro e w' ⟨rfl, rfl⟩
  go_wp2_with fail
  refine (all_odd _ _ hodd6).mono ?_
  rintro e w' ⟨rfl, rfl⟩
  go_wp2_with fail
  refine (full_nil _).mono ?_
  rintro e w' ⟨rfl, m1, rfl⟩
  go_wp2_with fail
  refine (full_odd _ _ (by exact hodd6)).mono ?_
  rintro e w' ⟨rfl, m2, rfl⟩
  go_wp2_with fail
  refine (clone_nil _).mono ?_
  rintro e w' ⟨rfl, rfl⟩
  go_wp2_with fail
  refine (clone_odd _ _ (by exact hodd6)).mono ?_
  rintro e w' ⟨rfl, rfl⟩
  go_wp2_with fail
  go_ret
  exact ⟨rfl, (K6.drewN _).below (Nat.le_refl _) (fun _ _ => id)⟩

section
open Go.ChangeShapes Go.WideShapes Go.ChangeAt Go.RowKit Go.Proofs.Ytgjoofjkhcnekaa.Own Go.Proofs.Ytgjoofjkhcnekaa.Open

theorem own : ownKnob Try.prog.godebug = none := by kernel_rfl
theorem laidOut : laidOutB Try.prog = true := by kernel_rfl

set_option maxRecDepth 100000 in
theorem lifted (os : Os) (started : os.Started) (H : Type) (enc : TypeId × Value → H) :
    ReturnsInHanded {} Try.checked os 5 .any (Rows.bufferNobodySpec.pre6 enc Try.prog Try.f5 Rows.bufferNobodyRow.domain false) (Rows.bufferNobodySpec.post enc Try.prog Try.f5 false true false false) := by
  refine returnsInHanded_of_change (C := Try.checked) own started (by kernel_rfl) Try.func5
    (ChangeSpec.witness6 (enc := enc) (C := Try.checked) false ⟨#[], #[.agg #[.int .i64 0, .int .i64 0, .int .i64 0, .int .i64 0, .int .i64 0, .int .i64 0, .int .i64 0, .int .i64 0]], []⟩ 8 (by kernel_rfl) (by kernel_rfl) (by kernel_rfl) (by kernel_rfl)) ?_
  intro W base args ds gs before hval0 hW hcnd _
  have hval : ∀ (j : Nat) t v, Try.f5.params[j]? = some t → args[j]? = some v → Value.okWide Try.prog W .any base t v := hval0
  have hW' := hW
  obtain ⟨p, q, hA0, hV, rfl, hfz, hnd⟩ := hW
  have hA : DataW.TrodAll enc Try.prog W 0 (fun _ => true) true Try.f5.params.toList args.toList ds p := hA0
  rw [Try.params5] at hA hval
  have hA1 := hA
  obtain ⟨v0, vs0, d0, ds0, p0, q0, hargs, rfl, rfl, h0, r0⟩ := trodAll_cons hA
  obtain ⟨rfl, rfl, rfl⟩ := trodAll_nil r0
  obtain rfl : args = #[v0] := by cases args; simp_all
  obtain ⟨rfl, rfl⟩ := trodVars_none hV
  obtain ⟨z0, rfl, l0, wf0⟩ := open_agg_i64 Try.underlying35 (by kernel_rfl) (hval 0 35 v0 rfl rfl) h0
  clear hA0 hval0
  simp only [List.append_nil] at hW' hA1
  refine (walk W z0 l0 wf0).mono fun e W' ⟨he, hb⟩ => ?_
  subst he
  exact ⟨_, rfl, ⟨_, _, _, [], _, [], hW', trodAll_mk1 (shut_bool Try.underlying4 _), below_args laidOut hb (by kernel_rfl) hA1 (fun x hx => by simpa using hW'.lt x hx), rfl, hb.frame _, fun h => by cases h⟩⟩

theorem over : Rows.bufferNobodyRow.holds Try.pinned (OpenSpec.ofChange Rows.bufferNobodySpec) :=
  OpenClaim.holds_of_wide 5 Try.f5 rfl rfl rfl rfl rfl rfl rfl ⟨rfl, rfl, rfl, rfl, rfl⟩ rfl rfl rfl rfl rfl (by kernel_rfl) Try.func5 (by kernel_rfl)
    (of_decide_eq_true (by kernel_rfl)) (by unfold Func.isWrapper; first | (rw [if_pos (by decide +kernel)]; kernel_rfl) | (rw [if_neg (by decide +kernel)]; exact ⟨rfl, rfl⟩))
    (fun os started H enc _ => lifted os started H enc)

theorem proved : Rows.BufferNobodySaid :=
  over
end
end Go.Proofs.Ytgjoofjkhcnekaa.bufferNobody
