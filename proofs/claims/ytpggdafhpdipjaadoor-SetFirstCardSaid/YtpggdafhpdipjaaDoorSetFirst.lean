/-
  SetFirst answers true, whatever the set is. Condition: the table of math/bits lies as its initialiser lays it.
-/
import Derived.Test.YtpggdafhpdipjaaDoorAlive
import Derived.Test.YtpggdafhpdipjaaDoorDoor
import Derived.Test.YtpggdafhpdipjaaDoorOpen
import Derived.Test.YtpggdafhpdipjaaDoorCards
import Derived.Test.YtpggdafhpdipjaaDoorTie
set_option linter.unusedVariables false
namespace Go.Proofs.YtpggdafhpdipjaaDoor.setFirst
open Go.RowKit Go.Proofs.YtpggdafhpdipjaaDoor.Own Go.Proofs.YtpggdafhpdipjaaDoor.Sets

theorem first_out {s : Nat} (hs : s < 18446744073709551616) (h0 : s ≠ 0) {x : Int} (hx : x = (Lib.ctz 64 s : Int)) :
    0 ≤ x ∧ x < 64 ∧ hasB s x = true ∧ (∀ k : Int, 0 ≤ k → k < x → hasB s k = false) ∧ cnt 64 (without_ s x) + 1 = cnt 64 s := by
  obtain ⟨hm, _, hc⟩ := memN_step s h0 hs
  have hin : 0 ≤ x ∧ x < 64 := by omega
  have hxn : x.toNat = Lib.ctz 64 s := by omega
  have hmem : ∀ i, i ∈ memN s ↔ i < 64 ∧ s.testBit i = true := fun i => by simp [memN, List.mem_filter]
  have hb : hasB s x = true := by rw [hasB_in hin, hxn]; exact ((hmem _).1 (by rw [hm]; simp)).2
  have hsort : (memN s).Pairwise (· < ·) := (List.pairwise_lt_range).filter _
  have hlow : ∀ i, i < Lib.ctz 64 s → s.testBit i = false := fun i hi => by
    cases hk : s.testBit i with
    | false => rfl
    | true =>
      have h3 := (hmem i).2 ⟨by omega, hk⟩
      rw [hm] at h3 hsort
      rcases List.mem_cons.1 h3 with e | e
      · omega
      · have := (List.pairwise_cons.1 hsort).1 _ e; omega
  refine ⟨hin.1, hin.2, hb, fun k h1 h2 => ?_, ?_⟩
  · rw [hasB_in ⟨h1, by omega⟩]
    exact hlow _ (by omega)
  · have h3 := filter_first (p := fun i => s.testBit i) (q := fun i => (without_ s x).testBit i) (k := Lib.ctz 64 s) (by rw [hasB_in hin, hxn] at hb; exact hb) hlow (fun i => by
      simp only [tb_without hs hin, hxn]
      by_cases h : Lib.ctz 64 s = i
      · subst h; simp
      · simp [h, Ne.symm h]) 64 hc
    have h4 := congrArg List.length h3
    simp only [List.length_cons] at h4
    unfold cnt
    rw [List.countP_eq_length_filter, List.countP_eq_length_filter]
    exact h4.symm

set_option maxHeartbeats 4000000 in
set_option maxRecDepth 100000 in
theorem walk (w : World) (hT : Door.Tabs w) (s0 : Int) (wf0 : (Lit.int .u64 s0).wf = true) :
    Calls Tryd.prog 5 #[.int .u64 s0] w fun e w' => e = .returned (.bool true) ∧ Below w.heap.size w w' := by
  obtain ⟨s, rfl, hs⟩ : ∃ s : Nat, s0 = s ∧ s < 18446744073709551616 := by
    simp [Lit.wf, IntKind.min, IntKind.max, IntKind.signed, IntKind.bits] at wf0
    exact ⟨s0.toNat, by omega, by omega⟩
  have h0w : 0 < w.heap.size := hT.pos
  go_enter Tryd.func5, Tryd.ntmps5
  go_wp2_with fail
  refine (alive_is w hT h0w).mono ?_
  rintro e w1 ⟨rfl, k1⟩
  have hz1 := k1.size
  go_wp2_with fail
  refine (first_is s hs w1 (hT.kept k1 id) (by omega)).mono ?_
  rintro e w2 ⟨x, b, hx, rfl, k2'⟩
  have k2 : Kept No w w2 := k1.trans k2' (fun _ _ f => f)
  have hz2 := k2.size
  have hT2 := hT.kept k2 id
  clear k1 k2' hz1
  rcases hx with ⟨rfl, rfl, rfl⟩ | ⟨h0, hxe, rfl⟩
  · go_wp2_with fail
    refine (count_is 0 (by omega) _).mono ?_
    rintro e w' ⟨rfl, rfl⟩
    rw [show cnt 64 0 = 0 by decide]
    go_wp2_with fail
    refine (list_is 0 (by omega) _ hT2 (by omega)).mono ?_
    rintro e w4 ⟨v, rfl, hr, k4⟩
    rw [mem_zero] at hr
    obtain ⟨_, ⟨rfl, _⟩ | ⟨g, cap, cur, rfl, _⟩⟩ := hr
    all_goals
      go_wp2_with fail
      go_ret
      exact ⟨rfl, (k2.trans k4 (fun _ _ f => f)).below (Nat.le_refl _) (fun _ _ => id)⟩
  · obtain ⟨x0, x1, f1, f2, f3⟩ := first_out hs h0 hxe
    have q0 : ((s : Int) == 0) = false := by rw [beq_eq_false_iff_ne]; omega
    clear hxe
    go_wp2_with fail
    go_loopw [5] (fun i wr => ∃ k : Nat, (k : Int) ≤ x ∧ i = .int .i64 k ∧ Kept No w wr) (fun i _ => 64 - (intOf i).toNat)
    case atStart => exact ⟨0, by omega, rfl, k2⟩
    case round =>
      obtain ⟨k, hk, rfl, hK⟩ := hrel
      by_cases hlt : (k : Int) < x
      · have f4 := f2 k (by omega) hlt
        go_wp2_with fail
        refine (has_is s hs k _).mono ?_
        rintro e w' ⟨rfl, rfl⟩
        rw [f4]
        go_wp2_with fail
        go_roundw
        case rel => exact ⟨k + 1, by omega, by go_num, hK⟩
        case measure => simp [intOf]; omega
      · have hl := without_lt hs x
        have q1 : IntKind.i64.wrap ((cnt 64 s : Int) - 1) = (cnt 64 (without_ s x) : Int) := by
          have h64 : cnt 64 s ≤ 64 := by
            unfold cnt
            have := List.countP_le_length (p := fun i => s.testBit i) (l := List.range 64)
            simpa using this
          rw [IntKind.wrap_i64]; omega
        have q2 : ((cnt 64 (without_ s x) : Int) == (cnt 64 (without_ s x) : Int)) = true := by simp
        go_wp2_with (first
          | (go_at_call 13; refine (without_is _ (by assumption) _ _).mono ?_; rintro e w' ⟨rfl, rfl⟩)
          | (go_at_call 11; refine (count_is _ (by assumption) _).mono ?_; rintro e w' ⟨rfl, rfl⟩)
          | (go_at_call 8; refine (has_is _ (by assumption) _ _).mono ?_; rintro e w' ⟨rfl, rfl⟩))
        go_ret
        exact ⟨rfl, hK.below (Nat.le_refl _) (fun _ _ => id)⟩

section
open Go.ChangeShapes Go.WideShapes Go.ChangeAt Go.RowKit Go.Proofs.YtpggdafhpdipjaaDoor.Own Go.Proofs.YtpggdafhpdipjaaDoor.Open Go.Proofs.YtpggdafhpdipjaaDoor.Door

theorem own : ownKnob Tryd.prog.godebug = none := by kernel_rfl
theorem laidOut : laidOutB Tryd.prog = true := by kernel_rfl

theorem door_met (os : Os) (args : Array Value) : laidMetH Tryd.prog Rows.setFirstRow.laid ((World.doorLaid Tryd.prog 14 os).forCall (fun _ _ => 0) ⟨#[], args, []⟩).memory :=
  laidMetH_of_parts3 (fuel := 8) (laidMet_of_run' 8 (by kernel_rfl) (by kernel_rfl)) (by kernel_rfl) (by kernel_rfl)

set_option maxRecDepth 100000 in
theorem lifted (os : Os) (started : os.Started) (H : Type) (enc : TypeId × Value → H) :
    ReturnsInHanded {} Tryd.checked os 5 .any (fun w args => (Rows.setFirstSpec.pre enc Tryd.prog Tryd.f5 [] false w args ∧ laidMetH Tryd.prog Rows.setFirstRow.laid w) ∧ sizedMet enc Tryd.prog Tryd.f5 (OpenSpec.ofChange Rows.setFirstSpec) false w args) (Rows.setFirstSpec.post enc Tryd.prog Tryd.f5 false true false false) := by
  refine returnsInHanded_of_change_and (C := Tryd.checked) (X := fun w _ => laidMetH Tryd.prog Rows.setFirstRow.laid w) (fun _ _ _ hh h => h.of_heap hh) own started (by kernel_rfl) Tryd.func5
    (ChangeSpec.witness_shaped (enc := enc) (C := Tryd.checked) (os := os) (X := fun w _ => laidMetH Tryd.prog Rows.setFirstRow.laid w) false (World.doorLaid Tryd.prog 14 os) #[.int .u64 0] 8 rfl (World.shaped_of_RefB (by kernel_rfl) (by kernel_rfl)) (by kernel_rfl) (by kernel_rfl) (by kernel_rfl) (door_met os _)) ?_
  intro W base args ds gs before hval0 hW _ _ hL _
  have hval : ∀ (j : Nat) t v, Tryd.f5.params[j]? = some t → args[j]? = some v → Value.okWide Tryd.prog W .any base t v := hval0
  have hW' := hW
  obtain ⟨p, q, hA0, hV, rfl, hfz, hnd⟩ := hW
  have hA : DataW.TrodAll enc Tryd.prog W 0 (fun _ => true) true Tryd.f5.params.toList args.toList ds p := hA0
  rw [Tryd.params5] at hA hval
  have hA1 := hA
  obtain ⟨v0, vs0, d0, ds0, p0, q0, hargs, rfl, rfl, h0, r0⟩ := trodAll_cons hA
  obtain ⟨rfl, rfl, rfl⟩ := trodAll_nil r0
  obtain rfl : args = #[v0] := by cases args; simp_all
  obtain ⟨rfl, rfl⟩ := trodVars_none hV
  obtain ⟨a0, rfl, rfl, rfl, w0⟩ := open_int Tryd.underlying24 (hval 0 24 v0 rfl rfl) h0
  clear hA0 hval0
  simp only [List.append_nil] at hW' hA1
  refine (walk W (tabs_of hL) a0 w0).mono fun e W' ⟨he, hb⟩ => ?_
  subst he
  exact ⟨_, rfl, ⟨_, _, _, [], _, [], hW', trodAll_mk1 (shut_bool Tryd.underlying4 _), below_args laidOut hb (by kernel_rfl) hA1 (fun x hx => by simpa using hW'.lt x hx), rfl, hb.frame _, fun h => by cases h⟩⟩

theorem said : Rows.SetFirstSaid :=
  OpenClaim.holds_of_wide 5 Tryd.f5 rfl rfl rfl rfl rfl rfl rfl ⟨rfl, rfl, rfl, rfl, rfl⟩ rfl rfl rfl rfl rfl (by kernel_rfl) Tryd.func5 (by kernel_rfl)
    (of_decide_eq_true (by kernel_rfl)) (by unfold Func.isWrapper; first | (rw [if_pos (by decide +kernel)]; kernel_rfl) | (rw [if_neg (by decide +kernel)]; exact ⟨rfl, rfl⟩))
    (fun os started H enc _ => lifted os started H enc)

theorem proved : Rows.SetFirstCardSaid :=
  Claim7.holds_tied_plain_at .later [] [.data] true Rows.setFirstCard.stood.harness false
    said (fun _ h => by cases h) (by kernel_rfl) (fun _ h => by cases h) setFirst_row_tie rfl ⟨rfl, rfl⟩ (by kernel_rfl) rfl
    (fun f fn hf hfn => by
      obtain rfl : f = 5 := Option.some.inj ((show Tryd.prog.funcNamed "warrener/warrenerlaw04.SetFirst" = some 5 by kernel_rfl).symm.trans hf) |>.symm
      obtain rfl : fn = Tryd.f5 := (Option.some.inj (Tryd.func5.symm.trans hfn)).symm
      exact ⟨by kernel_rfl, fun j t ht => by
        have hm : t ∈ Tryd.f5.params := Array.mem_of_getElem? ht
        have hall : (Tryd.f5.params.all fun u => !Tryd.prog.wantsStandIn u) = true := by kernel_rfl
        have := Array.all_eq_true_iff_forall_mem.1 hall t hm
        exact (show Tryd.prog.wantsStandIn t = false by simpa using this)⟩)
    (by kernel_rfl)
end
end Go.Proofs.YtpggdafhpdipjaaDoor.setFirst
