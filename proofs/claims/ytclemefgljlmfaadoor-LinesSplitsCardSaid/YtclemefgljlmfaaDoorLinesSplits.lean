/-
  LinesSplits answers true, whatever the text is. Condition: the seven variables that the row lists lie as their initialisers lay them.
-/
import Derived.Test.YtclemefgljlmfaaDoorLive08
import Derived.Test.YtclemefgljlmfaaDoorRefLines
import Derived.Lay
import Derived.MakeChecks
import Derived.Test.YtclemefgljlmfaaDoorDoor
import Derived.Test.YtclemefgljlmfaaDoorOpen
import Derived.Test.YtclemefgljlmfaaDoorCards
import Derived.Test.YtclemefgljlmfaaDoorTie
set_option linter.unusedVariables false
namespace Go.Proofs.YtclemefgljlmfaaDoor.linesSplits
open Go.RowKit Go.Proofs.YtclemefgljlmfaaDoor.Own Go.Proofs.YtclemefgljlmfaaDoor.Line

theorem wordsL_len (l : List UInt8) : (wordsL l).length ≤ l.length + 1 := Nat.le_trans (List.length_filter_le _ _) (pieces_len 32 l)

set_option maxHeartbeats 4000000 in
theorem walk (w : World) (hT : Door.Tabs w) (s : ByteArray) (hs : s.size ≤ maxLen) :
    Calls Tryd.prog 3 #[.string s] w fun e w' => e = .returned (.bool true) ∧ Below w.heap.size w w' := by
  have HT := Lib.hid hT
  clear hT
  obtain ⟨l, hl⟩ : ∃ l, s.data.toList.take 600 = l := ⟨_, rfl⟩
  have hlen : l.length ≤ 600 := by rw [← hl, List.length_take]; omega
  have hcut := fun w => cut_to s 600 hs (by omega) w
  rw [hl] at hcut
  have Hcut := Lib.hid hcut
  clear hcut hl
  go_enter Tryd.func3, Tryd.ntmps3
  go_wp2_with fail
  refine (alive_is w HT.out).mono ?_
  rintro e w1 ⟨rfl, k1⟩
  have K1 := Lib.hid k1
  clear k1
  go_wp2_with fail
  refine (Hcut.out w1).mono ?_
  rintro e w1' ⟨rfl, rfl⟩
  go_wp2_with fail
  refine (split_is l (by omega) w1').mono ?_
  rintro e w2 ⟨k2, v2, rfl, s2⟩
  have S2 := Lib.hid s2
  have K2 := Lib.hid (K1.out.trans k2 (fun _ _ f => f))
  clear k2 s2
  go_wp2_with fail
  refine (refsplit_is l (by omega) w2).mono ?_
  rintro e w3 ⟨k3, v3, rfl, s3⟩
  have S3 := Lib.hid s3
  have S23 := Lib.hid (S2.out.kept k3 (fun _ _ => id))
  have K3 := Lib.hid (K2.out.trans k3 (fun _ _ f => f))
  clear k3 s3
  go_wp2_with fail
  refine (texts_is w3 v2 v3 _ _ _ _ S23.out.rd S3.out.rd).mono ?_
  rintro e w4 ⟨rfl, k4⟩
  rw [decide_eq_true rfl]
  have K4 := Lib.hid (K3.out.trans k4 (fun _ _ f => f))
  clear k4 S2 S3 S23
  go_wp2_with fail
  refine (words_is l (by omega) w4).mono ?_
  rintro e w5 ⟨k5, v5, rfl, s5⟩
  have S5 := Lib.hid s5
  have K5 := Lib.hid (K4.out.trans k5 (fun _ _ f => f))
  clear k5 s5
  go_wp2_with fail
  refine (refwords_is l (by omega) w5).mono ?_
  rintro e w6 ⟨k6, v6, rfl, s6⟩
  have S6 := Lib.hid s6
  have S56 := Lib.hid (S5.out.kept k6 (fun _ _ => id))
  have K6 := Lib.hid (K5.out.trans k6 (fun _ _ f => f))
  clear k6 s6
  go_wp2_with fail
  refine (texts_is w6 v5 v6 _ _ _ _ S56.out.rd S6.out.rd).mono ?_
  rintro e w7 ⟨rfl, k7⟩
  rw [decide_eq_true rfl]
  have K7 := Lib.hid (K6.out.trans k7 (fun _ _ f => f))
  clear k7
  go_wp2_with fail
  go_ret
  exact ⟨rfl, K7.out.below (Nat.le_refl _) (fun _ _ => id)⟩

section
open Go.ChangeShapes Go.WideShapes Go.ChangeAt Go.ChangeMaps Go.RowKit Go.Proofs.YtclemefgljlmfaaDoor.Own Go.Proofs.YtclemefgljlmfaaDoor.Open Go.Proofs.YtclemefgljlmfaaDoor.Door

theorem own : ownKnob Tryd.prog.godebug = none := by kernel_rfl
theorem laidOut : laidOutB Tryd.prog = true := by kernel_rfl

theorem door_met (os : Os) (args : Array Value) : laidMetH Tryd.prog Rows.linesSplitsRow.laid ((World.laidAll Tryd.prog os Rows.linesSplitsRow.laid).forCall (fun _ _ => 0) ⟨#[], args, []⟩).memory := by
  rw [MakeChecks.laidMetH_plain _ _ _ (by kernel_rfl)]
  exact laidMet_laidAll _ (by kernel_rfl) (by kernel_rfl)

set_option maxRecDepth 100000 in
theorem lifted (os : Os) (started : os.Started) (H : Type) (enc : TypeId × Value → H) :
    ReturnsInHanded {} Tryd.checked os 3 .any (fun w args => (Rows.linesSplitsSpec.pre enc Tryd.prog Tryd.f3 [] false w args ∧ laidMetH Tryd.prog Rows.linesSplitsRow.laid w) ∧ sizedMet enc Tryd.prog Tryd.f3 (OpenSpec.ofChange Rows.linesSplitsSpec) false w args) (Rows.linesSplitsSpec.post enc Tryd.prog Tryd.f3 false true false false) := by
  refine returnsInHanded_of_change_and (C := Tryd.checked) (X := fun w _ => laidMetH Tryd.prog Rows.linesSplitsRow.laid w) (fun _ _ _ hh h => h.of_heap hh) own started (by kernel_rfl) Tryd.func3
    (ChangeSpec.witness_shaped (enc := enc) (C := Tryd.checked) (os := os) (X := fun w _ => laidMetH Tryd.prog Rows.linesSplitsRow.laid w) false (World.laidAll Tryd.prog os Rows.linesSplitsRow.laid) #[.string ⟨#[]⟩] 8 (World.laidAll_os _ _ _) (World.shaped_of_ZipB (by kernel_rfl) (by kernel_rfl)) (by kernel_rfl) (by kernel_rfl) (by kernel_rfl) (door_met os _)) ?_
  intro W base args ds gs before hval0 hW _ _ hL _
  have hval : ∀ (j : Nat) t v, Tryd.f3.params[j]? = some t → args[j]? = some v → Value.okWide Tryd.prog W .any base t v := hval0
  have hW' := hW
  obtain ⟨p, q, hA0, hV, rfl, hfz, hnd⟩ := hW
  have hA : DataW.TrodAll enc Tryd.prog W 0 (fun _ => true) true Tryd.f3.params.toList args.toList ds p := hA0
  rw [Tryd.params3] at hA hval
  have hA1 := hA
  obtain ⟨v0, vs0, d0, ds0, p0, q0, hargs, rfl, rfl, h0, r0⟩ := trodAll_cons hA
  obtain ⟨rfl, rfl, rfl⟩ := trodAll_nil r0
  obtain rfl : args = #[v0] := by cases args; simp_all
  obtain ⟨rfl, rfl⟩ := trodVars_none hV
  obtain ⟨a0, rfl, rfl, rfl, w0⟩ := open_string Tryd.underlying9 (hval 0 9 v0 rfl rfl) h0
  clear hA0 hval0
  simp only [List.append_nil] at hW' hA1
  refine (walk W (tabs_of hL) a0 w0).mono fun e W' ⟨he, hb⟩ => ?_
  subst he
  exact ⟨_, rfl, ⟨_, _, _, [], _, [], hW', trodAll_mk1 (shut_bool Tryd.underlying4 _), below_args laidOut hb (by kernel_rfl) hA1 (fun x hx => by simpa using hW'.lt x hx), rfl, hb.frame _, fun h => by cases h⟩⟩

theorem said : Rows.LinesSplitsSaid :=
  OpenClaim.holds_of_wide 3 Tryd.f3 rfl rfl rfl rfl rfl rfl rfl ⟨rfl, rfl, rfl, rfl, rfl⟩ rfl rfl rfl rfl rfl (by kernel_rfl) Tryd.func3 (by kernel_rfl)
    (of_decide_eq_true (by kernel_rfl)) (by unfold Func.isWrapper; first | (rw [if_pos (by decide +kernel)]; kernel_rfl) | (rw [if_neg (by decide +kernel)]; exact ⟨rfl, rfl⟩))
    (fun os started H enc _ => lifted os started H enc)

theorem proved : Rows.LinesSplitsCardSaid :=
  Claim7.holds_tied_plain_at .later [] [.data, .data, .data, .data, .sentinel, .sentinel, .pinned] true Rows.linesSplitsCard.stood.harness true
    said (fun _ h => by cases h) (by kernel_rfl) (fun _ h => by cases h) linesSplits_row_tie rfl ⟨rfl, rfl⟩ (by kernel_rfl) rfl
    (fun f fn hf hfn => by
      obtain rfl : f = 3 := Option.some.inj ((show Tryd.prog.funcNamed "warrener/warrenerlaw08.LinesSplits" = some 3 by kernel_rfl).symm.trans hf) |>.symm
      obtain rfl : fn = Tryd.f3 := (Option.some.inj (Tryd.func3.symm.trans hfn)).symm
      exact ⟨by kernel_rfl, fun j t ht => by
        have hm : t ∈ Tryd.f3.params := Array.mem_of_getElem? ht
        have hall : (Tryd.f3.params.all fun u => !Tryd.prog.wantsStandIn u) = true := by kernel_rfl
        have := Array.all_eq_true_iff_forall_mem.1 hall t hm
        exact (show Tryd.prog.wantsStandIn t = false by simpa using this)⟩)
    (by kernel_rfl)
end
end Go.Proofs.YtclemefgljlmfaaDoor.linesSplits
