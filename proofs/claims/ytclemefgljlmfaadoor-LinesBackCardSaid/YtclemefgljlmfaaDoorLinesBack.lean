/-
  LinesBack answers true, whatever the number is. Condition: the seven variables that the row lists lie as their initialisers lay them.
-/
import Derived.Test.YtclemefgljlmfaaDoorLive08
import Derived.Test.YtclemefgljlmfaaDoorRefDec
import Derived.Lay
import Derived.MakeChecks
import Derived.Test.YtclemefgljlmfaaDoorDoor
import Derived.Test.YtclemefgljlmfaaDoorOpen
import Derived.Test.YtclemefgljlmfaaDoorCards
import Derived.Test.YtclemefgljlmfaaDoorTie
set_option linter.unusedVariables false
namespace Go.Proofs.YtclemefgljlmfaaDoor.linesBack
open Go.RowKit Go.Proofs.YtclemefgljlmfaaDoor.Own Go.Proofs.YtclemefgljlmfaaDoor.Line

set_option maxHeartbeats 4000000 in
theorem walk (w : World) (hT : Door.Tabs w) (n : Int) (wf0 : (Lit.int .i64 n).wf = true) :
    Calls Tryd.prog 5 #[.int .i64 n] w fun e w' => e = .returned (.bool true) ∧ Below w.heap.size w w' := by
  obtain ⟨h0, h1⟩ := Open.wf_bd wf0
  have hn : numberL (Lib.itoa n) = some n := numberL_some.2 ⟨rfl, h0, h1⟩
  have hl := Lib.itoa_length_le n h0 h1
  have Hn := Lib.hid hn
  have HT := Lib.hid hT
  clear hn hT wf0
  obtain ⟨L, hL⟩ : ∃ L, Lib.itoa n = L := ⟨_, rfl⟩
  have HL := Lib.hid hL
  have hs : (L == L) = true := by simp
  rw [hL] at hl
  clear hL
  go_enter Tryd.func5, Tryd.ntmps5
  go_wp2_with fail
  refine (alive_is w HT.out).mono ?_
  rintro e w1 ⟨rfl, k1⟩
  have K1 := Lib.hid k1
  clear k1
  go_wp2_with fail
  refine (decimal_is n h0 h1 w1 (HT.out.kept K1.out)).mono ?_
  rw [HL.out]
  rintro e w2 ⟨rfl, k2⟩
  have K2 := Lib.hid (K1.out.trans k2 (fun _ _ f => f))
  clear k2
  go_wp2_with fail
  refine (number_is L (by omega) w2 (HT.out.kept K2.out)).mono ?_
  rw [← HL.out, Hn.out]
  rintro e w3 ⟨rfl, k3⟩
  simp only [Option.getD_some, Option.isSome_some]
  have K3 := Lib.hid (K2.out.trans k3 (fun _ _ f => f))
  clear k3
  go_wp2_with fail
  refine (decimal_is n h0 h1 w3 (HT.out.kept K3.out)).mono ?_
  rw [HL.out]
  rintro e w4 ⟨rfl, k4⟩
  have K4 := Lib.hid (K3.out.trans k4 (fun _ _ f => f))
  clear k4
  go_wp2_with fail
  refine (refdec_is n h0 h1 w4).mono ?_
  rw [HL.out]
  rintro e w5 ⟨rfl, k5⟩
  have K5 := Lib.hid (K4.out.trans k5 (fun _ _ f => f))
  clear k5
  go_wp2_with fail
  go_ret
  exact ⟨rfl, K5.out.below (Nat.le_refl _) (fun _ _ => id)⟩

section
open Go.ChangeShapes Go.WideShapes Go.ChangeAt Go.ChangeMaps Go.RowKit Go.Proofs.YtclemefgljlmfaaDoor.Own Go.Proofs.YtclemefgljlmfaaDoor.Open Go.Proofs.YtclemefgljlmfaaDoor.Door

theorem own : ownKnob Tryd.prog.godebug = none := by kernel_rfl
theorem laidOut : laidOutB Tryd.prog = true := by kernel_rfl

theorem door_met (os : Os) (args : Array Value) : laidMetH Tryd.prog Rows.linesBackRow.laid ((World.laidAll Tryd.prog os Rows.linesBackRow.laid).forCall (fun _ _ => 0) ⟨#[], args, []⟩).memory := by
  rw [MakeChecks.laidMetH_plain _ _ _ (by kernel_rfl)]
  exact laidMet_laidAll _ (by kernel_rfl) (by kernel_rfl)

set_option maxRecDepth 100000 in
theorem lifted (os : Os) (started : os.Started) (H : Type) (enc : TypeId × Value → H) :
    ReturnsInHanded {} Tryd.checked os 5 .any (fun w args => (Rows.linesBackSpec.pre enc Tryd.prog Tryd.f5 [] false w args ∧ laidMetH Tryd.prog Rows.linesBackRow.laid w) ∧ sizedMet enc Tryd.prog Tryd.f5 (OpenSpec.ofChange Rows.linesBackSpec) false w args) (Rows.linesBackSpec.post enc Tryd.prog Tryd.f5 false true false false) := by
  refine returnsInHanded_of_change_and (C := Tryd.checked) (X := fun w _ => laidMetH Tryd.prog Rows.linesBackRow.laid w) (fun _ _ _ hh h => h.of_heap hh) own started (by kernel_rfl) Tryd.func5
    (ChangeSpec.witness_shaped (enc := enc) (C := Tryd.checked) (os := os) (X := fun w _ => laidMetH Tryd.prog Rows.linesBackRow.laid w) false (World.laidAll Tryd.prog os Rows.linesBackRow.laid) #[.int .i64 0] 8 (World.laidAll_os _ _ _) (World.shaped_of_ZipB (by kernel_rfl) (by kernel_rfl)) (by kernel_rfl) (by kernel_rfl) (by kernel_rfl) (door_met os _)) ?_
  intro W base args ds gs before hval0 hW _ _ hL _
  have hval : ∀ (j : Nat) t v, Tryd.f5.params[j]? = some t → args[j]? = some v → Value.okWide Tryd.prog W .any base t v := hval0
  have hW' := hW
  obtain ⟨p, q, hA0, hV, rfl, hfz, hnd⟩ := hW
  have hA : DataW.TrodAll enc Tryd.prog W 0 (fun _ => true) true Tryd.f5.params.toList args.toList ds p := hA0
  rw [Tryd.params5] at hA hval
  have hA1 := hA
  obtain ⟨v0, vs0, d0, ds0, p0, q0, hargs, rfl, rfl, h0, r0⟩ := trodAll_cons hA
  obtain ⟨rfl, rfl, rfl⟩ := trodAll_nil r0
  obtain rfl : args = #[v0] := by cases args; simp_all
  obtain ⟨rfl, rfl⟩ := trodVars_none hV
  obtain ⟨a0, rfl, rfl, rfl, w0⟩ := open_int Tryd.underlying2 (hval 0 2 v0 rfl rfl) h0
  clear hA0 hval0
  simp only [List.append_nil] at hW' hA1
  refine (walk W (tabs_of hL) a0 w0).mono fun e W' ⟨he, hb⟩ => ?_
  subst he
  exact ⟨_, rfl, ⟨_, _, _, [], _, [], hW', trodAll_mk1 (shut_bool Tryd.underlying4 _), below_args laidOut hb (by kernel_rfl) hA1 (fun x hx => by simpa using hW'.lt x hx), rfl, hb.frame _, fun h => by cases h⟩⟩

theorem said : Rows.LinesBackSaid :=
  OpenClaim.holds_of_wide 5 Tryd.f5 rfl rfl rfl rfl rfl rfl rfl ⟨rfl, rfl, rfl, rfl, rfl⟩ rfl rfl rfl rfl rfl (by kernel_rfl) Tryd.func5 (by kernel_rfl)
    (of_decide_eq_true (by kernel_rfl)) (by unfold Func.isWrapper; first | (rw [if_pos (by decide +kernel)]; kernel_rfl) | (rw [if_neg (by decide +kernel)]; exact ⟨rfl, rfl⟩))
    (fun os started H enc _ => lifted os started H enc)

theorem proved : Rows.LinesBackCardSaid :=
  Claim7.holds_tied_plain_at .later [] [.data, .data, .data, .data, .sentinel, .sentinel, .pinned] true Rows.linesBackCard.stood.harness true
    said (fun _ h => by cases h) (by kernel_rfl) (fun _ h => by cases h) linesBack_row_tie rfl ⟨rfl, rfl⟩ (by kernel_rfl) rfl
    (fun f fn hf hfn => by
      obtain rfl : f = 5 := Option.some.inj ((show Tryd.prog.funcNamed "warrener/warrenerlaw08.LinesBack" = some 5 by kernel_rfl).symm.trans hf) |>.symm
      obtain rfl : fn = Tryd.f5 := (Option.some.inj (Tryd.func5.symm.trans hfn)).symm
      exact ⟨by kernel_rfl, fun j t ht => by
        have hm : t ∈ Tryd.f5.params := Array.mem_of_getElem? ht
        have hall : (Tryd.f5.params.all fun u => !Tryd.prog.wantsStandIn u) = true := by kernel_rfl
        have := Array.all_eq_true_iff_forall_mem.1 hall t hm
        exact (show Tryd.prog.wantsStandIn t = false by simpa using this)⟩)
    (by kernel_rfl)
end
end Go.Proofs.YtclemefgljlmfaaDoor.linesBack
