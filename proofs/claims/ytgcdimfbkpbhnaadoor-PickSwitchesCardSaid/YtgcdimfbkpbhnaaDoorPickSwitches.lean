/-
  PickSwitches answers true, whatever the schedule and the numbers are. Condition: the three tables that the row lists lie as their initialisers lay them.
-/
import Derived.Test.YtgcdimfbkpbhnaaDoorSwLaw
import Derived.BigQuiet
import Derived.Test.YtgcdimfbkpbhnaaDoorDoor
import Derived.Test.YtgcdimfbkpbhnaaDoorOpen
import Derived.Test.YtgcdimfbkpbhnaaDoorCards
import Derived.Test.YtgcdimfbkpbhnaaDoorTie
set_option linter.unusedVariables false
namespace Go.Proofs.YtgcdimfbkpbhnaaDoor.pickSwitches
open Go.RowKit Go.Proofs.YtgcdimfbkpbhnaaDoor.Own Go.Proofs.YtgcdimfbkpbhnaaDoor.Pick

set_option maxHeartbeats 4000000 in
theorem walk (w : World) (hT : Door.Tabs w) (lv : Value) (ln : Nat) (zs0 : List Int) (hr0 : Rd w 1 lv ln (vals zs0)) (wf0 : ∀ z ∈ zs0, (Lit.int .i64 z).wf = true) (i : Int) (wf1 : (Lit.int .i64 i).wf = true) (m : Int) (wf2 : (Lit.int .i64 m).wf = true) :
    Calls Tryd.prog 5 #[lv, .int .i64 i, .int .i64 m] w fun e w' => e = .returned (.bool true) ∧ Below w.heap.size w w' := by
  have hi := Open.wf_bd wf1
  have hm := Open.wf_bd wf2
  clear wf0 wf1 wf2
  go_enter Tryd.func5, Tryd.ntmps5
  go_wp2_with fail
  refine (alive_is w).mono ?_
  rintro e w1 ⟨rfl, k1⟩
  go_wp2_with fail
  refine (few_is w1 _ ln zs0 (hr0.kept k1 (fun _ _ => id))).mono ?_
  rintro e w1 ⟨⟨v, n, rfl, hn, hr⟩, rfl⟩
  have hl := hr.1
  rw [vals_len, Nat.mul_one] at hl
  obtain ⟨a, c, rfl⟩ : ∃ a c, v = .slice a n c := by obtain ⟨_, a, c, h, _⟩ := hr; exact ⟨a, c, h⟩
  generalize zs0.take 80 = zs at *
  have Hr := Lib.hid hr
  have hR := hr.2
  obtain ⟨_, _, e0, _, _, _, hR⟩ := hR
  cases e0
  have HR := Lib.hid hR
  have Hl := Lib.hid hl
  clear hr hR hr0 hl
  go_wp2_with fail
  go_loopw [7, 8] (fun c i wr => ∃ k : Nat, 1 ≤ k ∧ k ≤ max n 1 ∧ i = .int .i64 k ∧ c = .int .i64 (swK zs (min k n) : Nat) ∧ Kept No w1 wr) (fun _ i _ => n - (intOf i).toNat)
  case atStart =>
    refine ⟨1, by omega, by omega, rfl, ?_, Kept.refl _ _⟩
    have : swK zs (min 1 n) = 0 := by
      rcases Nat.lt_or_ge n 1 with h | h
      · rw [show min 1 n = 0 by omega]; rfl
      · rw [show min 1 n = 1 by omega]; rfl
    rw [this]; rfl
  case round =>
    obtain ⟨k, hk1, hk, rfl, rfl, hK⟩ := hrel
    by_cases hlt : k < n
    · obtain ⟨g, o, rfl, hg, hcell⟩ := HR.out (by omega)
      obtain ⟨p, rfl⟩ : ∃ p, k = p + 1 := ⟨k - 1, by omega⟩
      have hl := Hl.out
      have c : ∀ nq, (wr.drewN nq).cell? ⟨g, o + (p + 1), none⟩ = some (.int .i64 (zs[p + 1]'(by omega))) := fun nq => ((hK.drewN nq).cell (p := ⟨g, o + (p + 1), none⟩) hg id).trans (hcell (p + 1) _ (by simp [vals]))
      have c2 : ∀ nq, (wr.drewN nq).cell? ⟨g, o + p, none⟩ = some (.int .i64 (zs[p]'(by omega))) := fun nq => ((hK.drewN nq).cell (p := ⟨g, o + p, none⟩) hg id).trans (hcell p _ (by simp [vals]))
      have hst : swK zs (min (p + 1 + 1) n) = swK zs (min (p + 1) n) + if zs[p + 1]'(by omega) ≠ zs[p]'(by omega) then 1 else 0 := by
        rw [show min (p + 1 + 1) n = p + 1 + 1 by omega, show min (p + 1) n = p + 1 by omega, swK.eq_2 zs (p + 1)]
        simp [List.getD, show p + 1 < zs.length by omega, show p < zs.length by omega]
      have e1 : IntKind.i64.wrap (((p : Int) + 1) - 1) = (p : Int) := by rw [IntKind.wrap_i64]; omega
      have hb := swK_le zs (min (p + 1) n)
      have hb2 : swK zs (min (p + 1) n) ≤ 80 := by omega
      generalize zs[p + 1]'(by omega) = x at *
      generalize zs[p]'(by omega) = y at *
      have Hst := Lib.hid hst
      clear hcell hst hb hl
      generalize swK zs (min (p + 1) n) = q at *
      by_cases hxy : x = y
      · subst hxy
        have hq : (x != x) = false := by simp
        go_wp2_with fail
        go_quiet (fail)
        go_wp2_with fail
        go_roundw
        case rel => exact ⟨p + 1 + 1, by omega, by omega, by go_num, by rw [Hst.out]; simp, hK.drewN _⟩
        case measure => simp [intOf]; omega
      · have hq : (x != y) = true := by simp [hxy]
        go_wp2_with fail
        go_quiet (fail)
        go_wp2_with fail
        go_roundw
        case rel => exact ⟨p + 1 + 1, by omega, by omega, by go_num, by rw [Hst.out, if_pos hxy]; go_num, hK.drewN _⟩
        case measure => simp [intOf]; omega
    · have hmin : swK zs (min k n) = swK zs n := by rw [show min k n = n by omega]
      have hle := sw_without zs i m
      have hl := Hl.out
      rw [hl] at hle
      have hwl : (withoutL zs i m).length ≤ 80 := by
        unfold withoutL
        split
        · simp; omega
        · omega
      have K1 := k1.trans hK (fun _ _ f => f)
      have hb : swK zs n ≤ 80 := by have := swK_le zs n; omega
      have Hr2 := Lib.hid (Hr.out.kept hK (fun _ _ => id))
      obtain ⟨q, hq⟩ : ∃ q, swK zs n = q := ⟨_, rfl⟩
      obtain ⟨q2, hq2⟩ : ∃ q2, swK (withoutL zs i m) (withoutL zs i m).length = q2 := ⟨_, rfl⟩
      rw [hmin, hq]
      rw [hq] at hb
      rw [hq, hq2] at hle
      have Hq := Lib.hid hq
      have Hq2 := Lib.hid hq2
      have HK1 := Lib.hid K1
      clear hl hmin hq hq2 K1 hK
      have hqq : decide ((q2 : Int) ≤ (q : Int)) = true := by simp; omega
      go_wp2_with fail
      refine (switches_is wr _ n zs Hr2.out).mono ?_
      rw [Hq.out]
      rintro e w3 ⟨rfl, k3⟩
      have Hr3 := Lib.hid (Hr2.out.kept k3 (fun _ _ => id))
      have HK3 := Lib.hid (HK1.out.trans k3 (fun _ _ f => f))
      clear k3
      go_wp2_with fail
      refine (without_is w3 _ n zs i m hi hm Hr3.out (by omega)).mono ?_
      rintro e w4 ⟨⟨u, rfl, hr4⟩, k4⟩
      have HK4 := Lib.hid (HK3.out.trans k4 (fun _ _ f => f))
      obtain ⟨a4, c4, rfl⟩ : ∃ a c, u = .slice a (withoutL zs i m).length c := by obtain ⟨_, a, c, h, _⟩ := hr4; exact ⟨a, c, h⟩
      clear k4
      have Hr4 := Lib.hid hr4
      clear hr4
      go_wp2_with fail
      refine (switches_is w4 _ _ _ Hr4.out).mono ?_
      rw [Hq2.out]
      rintro e w5 ⟨rfl, k5⟩
      have HK5 := Lib.hid (HK4.out.trans k5 (fun _ _ f => f))
      clear k5
      go_wp2_with fail
      go_ret
      exact ⟨by first | rfl | simp [hle], HK5.out.below (Nat.le_refl _) (fun _ _ => id)⟩

section
open Go.ChangeShapes Go.WideShapes Go.ChangeAt Go.RowKit Go.Proofs.YtgcdimfbkpbhnaaDoor.Own Go.Proofs.YtgcdimfbkpbhnaaDoor.Open Go.Proofs.YtgcdimfbkpbhnaaDoor.Door

theorem own : ownKnob Tryd.prog.godebug = none := by kernel_rfl
theorem laidOut : laidOutB Tryd.prog = true := by kernel_rfl

theorem door_met (os : Os) (args : Array Value) : laidMetH Tryd.prog Rows.pickSwitchesRow.laid ((World.doorLaid Tryd.prog 24 os).forCall (fun _ _ => 0) ⟨#[], args, []⟩).memory :=
  laidMetH_of_parts3 (fuel := 8) (laidMet_of_run' 8 (by kernel_rfl) (by kernel_rfl)) (by kernel_rfl) (by kernel_rfl)

set_option maxRecDepth 100000 in
theorem lifted (os : Os) (started : os.Started) (H : Type) (enc : TypeId × Value → H) :
    ReturnsInHanded {} Tryd.checked os 5 .any (fun w args => (Rows.pickSwitchesSpec.pre enc Tryd.prog Tryd.f5 [] false w args ∧ laidMetH Tryd.prog Rows.pickSwitchesRow.laid w) ∧ sizedMet enc Tryd.prog Tryd.f5 (OpenSpec.ofChange Rows.pickSwitchesSpec) false w args) (Rows.pickSwitchesSpec.post enc Tryd.prog Tryd.f5 false true false false) := by
  refine returnsInHanded_of_change_and (C := Tryd.checked) (X := fun w _ => laidMetH Tryd.prog Rows.pickSwitchesRow.laid w) (fun _ _ _ hh h => h.of_heap hh) own started (by kernel_rfl) Tryd.func5
    (ChangeSpec.witness_shaped (enc := enc) (C := Tryd.checked) (os := os) (X := fun w _ => laidMetH Tryd.prog Rows.pickSwitchesRow.laid w) false (World.doorLaid Tryd.prog 24 os) #[.slice none 0 0, .int .i64 0, .int .i64 0] 8 rfl (World.shaped_of_RefB (by kernel_rfl) (by kernel_rfl)) (by kernel_rfl) (by kernel_rfl) (by kernel_rfl) (door_met os _)) ?_
  intro W base args ds gs before hval0 hW _ _ hL _
  have hval : ∀ (j : Nat) t v, Tryd.f5.params[j]? = some t → args[j]? = some v → Value.okWide Tryd.prog W .any base t v := hval0
  have hW' := hW
  obtain ⟨p, q, hA0, hV, rfl, hfz, hnd⟩ := hW
  have hA : DataW.TrodAll enc Tryd.prog W 0 (fun _ => true) true Tryd.f5.params.toList args.toList ds p := hA0
  rw [Tryd.params5] at hA hval
  have hA1 := hA
  obtain ⟨v0, vs0, d0, ds0, p0, q0, hargs, rfl, rfl, h0, r0⟩ := trodAll_cons hA
  obtain ⟨v1, vs1, d1, ds1, p1, q1, rfl, rfl, rfl, h1, r1⟩ := trodAll_cons r0
  obtain ⟨v2, vs2, d2, ds2, p2, q2, rfl, rfl, rfl, h2, r2⟩ := trodAll_cons r1
  obtain ⟨rfl, rfl, rfl⟩ := trodAll_nil r2
  obtain rfl : args = #[v0, v1, v2] := by cases args; simp_all
  obtain ⟨rfl, rfl⟩ := trodVars_none hV
  obtain ⟨n0, z0, rd0, wf0⟩ := open_i64s 1 Tryd.underlying28 (by kernel_rfl) (by decide) (by kernel_rfl) (hval 0 28 v0 rfl rfl) h0
  obtain ⟨a1, rfl, rfl, rfl, w1⟩ := open_int Tryd.underlying3 (hval 1 3 v1 rfl rfl) h1
  obtain ⟨a2, rfl, rfl, rfl, w2⟩ := open_int Tryd.underlying3 (hval 2 3 v2 rfl rfl) h2
  clear hA0 hval0
  simp only [List.append_nil] at hW' hA1
  refine (walk W (tabs_of hL) v0 n0 z0 rd0 wf0 a1 w1 a2 w2).mono fun e W' ⟨he, hb⟩ => ?_
  subst he
  exact ⟨_, rfl, ⟨_, _, _, [], _, [], hW', trodAll_mk1 (shut_bool Tryd.underlying4 _), below_args laidOut hb (by kernel_rfl) hA1 (fun x hx => by simpa using hW'.lt x hx), rfl, hb.frame _, fun h => by cases h⟩⟩

theorem said : Rows.PickSwitchesSaid :=
  OpenClaim.holds_of_wide 5 Tryd.f5 rfl rfl rfl rfl rfl rfl rfl ⟨rfl, rfl, rfl, rfl, rfl⟩ rfl rfl rfl rfl rfl (by kernel_rfl) Tryd.func5 (by kernel_rfl)
    (of_decide_eq_true (by kernel_rfl)) (by unfold Func.isWrapper; first | (rw [if_pos (by decide +kernel)]; kernel_rfl) | (rw [if_neg (by decide +kernel)]; exact ⟨rfl, rfl⟩))
    (fun os started H enc _ => lifted os started H enc)

theorem proved : Rows.PickSwitchesCardSaid :=
  Claim7.holds_tied_plain_at .later [] [.data, .data, .data] true Rows.pickSwitchesCard.stood.harness false
    said (fun _ h => by cases h) (by kernel_rfl) (fun _ h => by cases h) pickSwitches_row_tie rfl ⟨rfl, rfl⟩ (by kernel_rfl) rfl
    (fun f fn hf hfn => by
      obtain rfl : f = 5 := Option.some.inj ((show Tryd.prog.funcNamed "warrener/warrenerlaw30.PickSwitches" = some 5 by kernel_rfl).symm.trans hf) |>.symm
      obtain rfl : fn = Tryd.f5 := (Option.some.inj (Tryd.func5.symm.trans hfn)).symm
      exact ⟨by kernel_rfl, fun j t ht => by
        have hm : t ∈ Tryd.f5.params := Array.mem_of_getElem? ht
        have hall : (Tryd.f5.params.all fun u => !Tryd.prog.wantsStandIn u) = true := by kernel_rfl
        have := Array.all_eq_true_iff_forall_mem.1 hall t hm
        exact (show Tryd.prog.wantsStandIn t = false by simpa using this)⟩)
    (by kernel_rfl)
end
end Go.Proofs.YtgcdimfbkpbhnaaDoor.pickSwitches
