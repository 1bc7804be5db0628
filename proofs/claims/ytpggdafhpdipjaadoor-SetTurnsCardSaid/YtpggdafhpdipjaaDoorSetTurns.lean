/-
  SetTurns answers true, whatever the set and the numbers are. Condition: the table of math/bits lies as its initialiser lays it.
-/
import Derived.Test.YtpggdafhpdipjaaDoorAlive
import Derived.Test.YtpggdafhpdipjaaDoorDoor
import Derived.Test.YtpggdafhpdipjaaDoorOpen
import Derived.Test.YtpggdafhpdipjaaDoorCards
import Derived.Test.YtpggdafhpdipjaaDoorTie
set_option linter.unusedVariables false
namespace Go.Proofs.YtpggdafhpdipjaaDoor.setTurns
open Go.RowKit Go.Proofs.YtpggdafhpdipjaaDoor.Own Go.Proofs.YtpggdafhpdipjaaDoor.Sets

theorem laws {s : Nat} (hs : s < 18446744073709551616) {i k : Int} (hi : 0 ≤ i ∧ i < 64) (hk : i ≠ k) :
    hasB (with_ s i) k = hasB s k ∧ hasB (without_ s i) k = hasB s k ∧ without_ (with_ s i) i = without_ s i ∧ with_ (without_ s i) i = with_ s i := by
  refine ⟨?_, ?_, ?_, ?_⟩
  · by_cases h : 0 ≤ k ∧ k < 64
    · rw [hasB_in h, hasB_in h, tb_with hi]
      simp [show i.toNat ≠ k.toNat by omega]
    · rw [hasB_out h, hasB_out h]
  · by_cases h : 0 ≤ k ∧ k < 64
    · rw [hasB_in h, hasB_in h, tb_without hs hi]
      simp [show i.toNat ≠ k.toNat by omega]
    · rw [hasB_out h, hasB_out h]
  · refine Nat.eq_of_testBit_eq fun j => ?_
    rw [tb_without (with_lt hs i) hi, tb_with hi, tb_without hs hi]
    by_cases h : i.toNat = j <;> simp [h]
  · refine Nat.eq_of_testBit_eq fun j => ?_
    rw [tb_with hi, tb_without hs hi, tb_with hi]
    by_cases h : i.toNat = j <;> simp [h]
theorem own_in {s : Nat} (hs : s < 18446744073709551616) {i : Int} (hi : 0 ≤ i ∧ i < 64) : hasB (with_ s i) i = true ∧ hasB (without_ s i) i = false := by
  rw [hasB_in hi, hasB_in hi, tb_with hi, tb_without hs hi]
  simp

set_option maxHeartbeats 4000000 in
set_option maxRecDepth 100000 in
theorem walk (w : World) (hT : Door.Tabs w) (s0 : Int) (wf0 : (Lit.int .u64 s0).wf = true) (i : Int) (wf1 : (Lit.int .i64 i).wf = true) (k : Int) (wf2 : (Lit.int .i64 k).wf = true) :
    Calls Tryd.prog 4 #[.int .u64 s0, .int .i64 i, .int .i64 k] w fun e w' => e = .returned (.bool true) ∧ Below w.heap.size w w' := by
  obtain ⟨s, rfl, hs⟩ : ∃ s : Nat, s0 = s ∧ s < 18446744073709551616 := by
    simp [Lit.wf, IntKind.min, IntKind.max, IntKind.signed, IntKind.bits] at wf0
    exact ⟨s0.toNat, by omega, by omega⟩
  have h0w : 0 < w.heap.size := hT.pos
  go_enter Tryd.func4, Tryd.ntmps4
  go_wp2_with fail
  refine (alive_is w hT h0w).mono ?_
  rintro e w1 ⟨rfl, k1⟩
  have hw := with_lt hs i
  have hwo := without_lt hs i
  by_cases hi : 0 ≤ i ∧ i < 64
  · have d1 : decide (0 ≤ i ∧ i < 64) = true := by simp [hi]
    obtain ⟨o1, o2⟩ := own_in hs hi
    by_cases hk : i = k
    · subst hk
      have q1 : (i == i) = true := by simp
      go_wp2_with (first
        | (go_at_call 12; refine (with_is _ (by assumption) _ _).mono ?_; rintro e w' ⟨rfl, rfl⟩)
        | (go_at_call 13; refine (without_is _ (by assumption) _ _).mono ?_; rintro e w' ⟨rfl, rfl⟩)
        | (go_at_call 14; refine (in_is _ _).mono ?_; rintro e w' ⟨rfl, rfl⟩)
        | (go_at_call 8; refine (has_is _ (by assumption) _ _).mono ?_; rintro e w' ⟨rfl, rfl⟩))
      go_ret
      exact ⟨rfl, k1.below (Nat.le_refl _) (fun _ _ => id)⟩
    · obtain ⟨l1, l2, l3, l4⟩ := laws hs hi hk
      have q1 : (i == k) = false := by simp [hk]
      have q2 : (hasB s k == hasB s k) = true := by simp
      have q3 : ((without_ s i : Int) == (without_ s i : Int)) = true := by simp
      have q4 : ((with_ s i : Int) == (with_ s i : Int)) = true := by simp
      go_wp2_with (first
        | (go_at_call 12; refine (with_is _ (by assumption) _ _).mono ?_; rintro e w' ⟨rfl, rfl⟩)
        | (go_at_call 13; refine (without_is _ (by assumption) _ _).mono ?_; rintro e w' ⟨rfl, rfl⟩)
        | (go_at_call 14; refine (in_is _ _).mono ?_; rintro e w' ⟨rfl, rfl⟩)
        | (go_at_call 8; refine (has_is _ (by assumption) _ _).mono ?_; rintro e w' ⟨rfl, rfl⟩))
      go_ret
      exact ⟨rfl, k1.below (Nat.le_refl _) (fun _ _ => id)⟩
  · have d1 : decide (0 ≤ i ∧ i < 64) = false := by simp; omega
    have e1 := with_out (s := s) hi
    have e2 := without_out hs hi
    have e3 := hasB_out (s := s) hi
    have q3 : ((s : Int) == (s : Int)) = true := by simp
    go_wp2_with (first
      | (go_at_call 12; refine (with_is _ (by assumption) _ _).mono ?_; rintro e w' ⟨rfl, rfl⟩)
      | (go_at_call 13; refine (without_is _ (by assumption) _ _).mono ?_; rintro e w' ⟨rfl, rfl⟩)
      | (go_at_call 14; refine (in_is _ _).mono ?_; rintro e w' ⟨rfl, rfl⟩)
      | (go_at_call 8; refine (has_is _ (by assumption) _ _).mono ?_; rintro e w' ⟨rfl, rfl⟩))
    go_ret
    exact ⟨rfl, k1.below (Nat.le_refl _) (fun _ _ => id)⟩

section
open Go.ChangeShapes Go.WideShapes Go.ChangeAt Go.RowKit Go.Proofs.YtpggdafhpdipjaaDoor.Own Go.Proofs.YtpggdafhpdipjaaDoor.Open Go.Proofs.YtpggdafhpdipjaaDoor.Door

theorem own : ownKnob Tryd.prog.godebug = none := by kernel_rfl
theorem laidOut : laidOutB Tryd.prog = true := by kernel_rfl

theorem door_met (os : Os) (args : Array Value) : laidMetH Tryd.prog Rows.setTurnsRow.laid ((World.doorLaid Tryd.prog 14 os).forCall (fun _ _ => 0) ⟨#[], args, []⟩).memory :=
  laidMetH_of_parts3 (fuel := 8) (laidMet_of_run' 8 (by kernel_rfl) (by kernel_rfl)) (by kernel_rfl) (by kernel_rfl)

set_option maxRecDepth 100000 in
theorem lifted (os : Os) (started : os.Started) (H : Type) (enc : TypeId × Value → H) :
    ReturnsInHanded {} Tryd.checked os 4 .any (fun w args => (Rows.setTurnsSpec.pre enc Tryd.prog Tryd.f4 [] false w args ∧ laidMetH Tryd.prog Rows.setTurnsRow.laid w) ∧ sizedMet enc Tryd.prog Tryd.f4 (OpenSpec.ofChange Rows.setTurnsSpec) false w args) (Rows.setTurnsSpec.post enc Tryd.prog Tryd.f4 false true false false) := by
  refine returnsInHanded_of_change_and (C := Tryd.checked) (X := fun w _ => laidMetH Tryd.prog Rows.setTurnsRow.laid w) (fun _ _ _ hh h => h.of_heap hh) own started (by kernel_rfl) Tryd.func4
    (ChangeSpec.witness_shaped (enc := enc) (C := Tryd.checked) (os := os) (X := fun w _ => laidMetH Tryd.prog Rows.setTurnsRow.laid w) false (World.doorLaid Tryd.prog 14 os) #[.int .u64 0, .int .i64 0, .int .i64 0] 8 rfl (World.shaped_of_RefB (by kernel_rfl) (by kernel_rfl)) (by kernel_rfl) (by kernel_rfl) (by kernel_rfl) (door_met os _)) ?_
  intro W base args ds gs before hval0 hW _ _ hL _
  have hval : ∀ (j : Nat) t v, Tryd.f4.params[j]? = some t → args[j]? = some v → Value.okWide Tryd.prog W .any base t v := hval0
  have hW' := hW
  obtain ⟨p, q, hA0, hV, rfl, hfz, hnd⟩ := hW
  have hA : DataW.TrodAll enc Tryd.prog W 0 (fun _ => true) true Tryd.f4.params.toList args.toList ds p := hA0
  rw [Tryd.params4] at hA hval
  have hA1 := hA
  obtain ⟨v0, vs0, d0, ds0, p0, q0, hargs, rfl, rfl, h0, r0⟩ := trodAll_cons hA
  obtain ⟨v1, vs1, d1, ds1, p1, q1, rfl, rfl, rfl, h1, r1⟩ := trodAll_cons r0
  obtain ⟨v2, vs2, d2, ds2, p2, q2, rfl, rfl, rfl, h2, r2⟩ := trodAll_cons r1
  obtain ⟨rfl, rfl, rfl⟩ := trodAll_nil r2
  obtain rfl : args = #[v0, v1, v2] := by cases args; simp_all
  obtain ⟨rfl, rfl⟩ := trodVars_none hV
  obtain ⟨a0, rfl, rfl, rfl, w0⟩ := open_int Tryd.underlying24 (hval 0 24 v0 rfl rfl) h0
  obtain ⟨a1, rfl, rfl, rfl, w1⟩ := open_int Tryd.underlying3 (hval 1 3 v1 rfl rfl) h1
  obtain ⟨a2, rfl, rfl, rfl, w2⟩ := open_int Tryd.underlying3 (hval 2 3 v2 rfl rfl) h2
  clear hA0 hval0
  simp only [List.append_nil] at hW' hA1
  refine (walk W (tabs_of hL) a0 w0 a1 w1 a2 w2).mono fun e W' ⟨he, hb⟩ => ?_
  subst he
  exact ⟨_, rfl, ⟨_, _, _, [], _, [], hW', trodAll_mk1 (shut_bool Tryd.underlying4 _), below_args laidOut hb (by kernel_rfl) hA1 (fun x hx => by simpa using hW'.lt x hx), rfl, hb.frame _, fun h => by cases h⟩⟩

theorem said : Rows.SetTurnsSaid :=
  OpenClaim.holds_of_wide 4 Tryd.f4 rfl rfl rfl rfl rfl rfl rfl ⟨rfl, rfl, rfl, rfl, rfl⟩ rfl rfl rfl rfl rfl (by kernel_rfl) Tryd.func4 (by kernel_rfl)
    (of_decide_eq_true (by kernel_rfl)) (by unfold Func.isWrapper; first | (rw [if_pos (by decide +kernel)]; kernel_rfl) | (rw [if_neg (by decide +kernel)]; exact ⟨rfl, rfl⟩))
    (fun os started H enc _ => lifted os started H enc)

theorem proved : Rows.SetTurnsCardSaid :=
  Claim7.holds_tied_plain_at .later [] [.data] true Rows.setTurnsCard.stood.harness false
    said (fun _ h => by cases h) (by kernel_rfl) (fun _ h => by cases h) setTurns_row_tie rfl ⟨rfl, rfl⟩ (by kernel_rfl) rfl
    (fun f fn hf hfn => by
      obtain rfl : f = 4 := Option.some.inj ((show Tryd.prog.funcNamed "warrener/warrenerlaw04.SetTurns" = some 4 by kernel_rfl).symm.trans hf) |>.symm
      obtain rfl : fn = Tryd.f4 := (Option.some.inj (Tryd.func4.symm.trans hfn)).symm
      exact ⟨by kernel_rfl, fun j t ht => by
        have hm : t ∈ Tryd.f4.params := Array.mem_of_getElem? ht
        have hall : (Tryd.f4.params.all fun u => !Tryd.prog.wantsStandIn u) = true := by kernel_rfl
        have := Array.all_eq_true_iff_forall_mem.1 hall t hm
        exact (show Tryd.prog.wantsStandIn t = false by simpa using this)⟩)
    (by kernel_rfl)
end
end Go.Proofs.YtpggdafhpdipjaaDoor.setTurns
