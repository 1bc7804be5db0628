/-
  LinesNumbers answers true, whatever the text and the bound are. Condition: the seven variables that the row lists lie as their initialisers lay them.
-/
import Derived.Test.YtclemefgljlmfaaDoorLive08
import Derived.Test.YtclemefgljlmfaaDoorRefNum
import Derived.Lay
import Derived.MakeChecks
import Derived.Test.YtclemefgljlmfaaDoorDoor
import Derived.Test.YtclemefgljlmfaaDoorOpen
import Derived.Test.YtclemefgljlmfaaDoorCards
import Derived.Test.YtclemefgljlmfaaDoorTie
set_option linter.unusedVariables false
namespace Go.Proofs.YtclemefgljlmfaaDoor.linesNumbers
open Go.RowKit Go.Proofs.YtclemefgljlmfaaDoor.Own Go.Proofs.YtclemefgljlmfaaDoor.Line

theorem small_none {l : List UInt8} {m : Int} (h : numberL l = none) : smallL l m = none := by rw [smallL, h]
theorem small_in {l : List UInt8} {m v : Int} (h : numberL l = some v) (h0 : 0 ≤ v) (h1 : v ≤ m) : smallL l m = some v := by rw [smallL, h]; simp [h0, h1]
theorem small_out {l : List UInt8} {m v : Int} (h : numberL l = some v) (h0 : ¬ (0 ≤ v ∧ v ≤ m)) : smallL l m = none := by rw [smallL, h]; simp only [if_neg h0]

set_option maxHeartbeats 4000000 in
theorem walk (w : World) (hT : Door.Tabs w) (s : ByteArray) (hs : s.size ≤ maxLen) (m : Int) (wf1 : (Lit.int .i64 m).wf = true) :
    Calls Tryd.prog 4 #[.string s, .int .i64 m] w fun e w' => e = .returned (.bool true) ∧ Below w.heap.size w w' := by
  have HT := Lib.hid hT
  clear hT wf1
  obtain ⟨l, hl⟩ : ∃ l, s.data.toList.take 60 = l := ⟨_, rfl⟩
  have hlen : l.length ≤ 60 := by rw [← hl, List.length_take]; omega
  have hcut := fun w => cut_to s 60 hs (by omega) w
  rw [hl] at hcut
  have Hcut := Lib.hid hcut
  clear hcut hl
  go_enter Tryd.func4, Tryd.ntmps4
  go_wp2_with fail
  refine (alive_is w HT.out).mono ?_
  rintro e w1 ⟨rfl, k1⟩
  have K1 := Lib.hid k1
  clear k1
  go_wp2_with fail
  refine (Hcut.out w1).mono ?_
  rintro e w1' ⟨rfl, rfl⟩
  go_wp2_with fail
  refine (number_is l (by omega) w1' (HT.out.kept K1.out)).mono ?_
  rintro e w2 ⟨rfl, k2⟩
  have K2 := Lib.hid (K1.out.trans k2 (fun _ _ f => f))
  clear k2
  go_wp2_with fail
  refine (refnum_is l (by omega) w2).mono ?_
  rintro e w3 ⟨rfl, k3⟩
  have K3 := Lib.hid (K2.out.trans k3 (fun _ _ f => f))
  clear k3
  go_wp2_with fail
  refine (small_is l (by omega) m w3 (HT.out.kept K3.out)).mono ?_
  rintro e w4 ⟨rfl, k4⟩
  have K4 := Lib.hid (K3.out.trans k4 (fun _ _ f => f))
  clear k4
  have fin : Kept No w w4 → Below w.heap.size w w4 := fun k => k.below (Nat.le_refl _) (fun _ _ => id)
  have Fin := Lib.hid (fin K4.out)
  clear fin
  cases hn : numberL l with
  | none =>
    rw [small_none hn]
    simp only [Option.getD_none, Option.isSome_none]
    have Hn := Lib.hid hn
    clear hn
    go_wp2_with fail
    go_ret
    exact ⟨rfl, Fin.out⟩
  | some v =>
    by_cases h0 : 0 ≤ v
    · by_cases h1 : v ≤ m
      · rw [small_in hn h0 h1]
        simp only [Option.getD_some, Option.isSome_some]
        have Hn := Lib.hid hn
        clear hn
        have hb0 : (v == v) = true := by simp
        go_wp2_with fail
        go_ret
        exact ⟨rfl, Fin.out⟩
      · rw [small_out hn (fun h => h1 h.2)]
        simp only [Option.getD_some, Option.isSome_some, Option.getD_none, Option.isSome_none]
        have Hn := Lib.hid hn
        clear hn
        have hb0 : (v == v) = true := by simp
        go_wp2_with fail
        go_ret
        exact ⟨rfl, Fin.out⟩
    · rw [small_out hn (fun h => h0 h.1)]
      simp only [Option.getD_some, Option.isSome_some, Option.getD_none, Option.isSome_none]
      have Hn := Lib.hid hn
      clear hn
      have hb0 : (v == v) = true := by simp
      go_wp2_with fail
      go_ret
      exact ⟨rfl, Fin.out⟩

section
open Go.ChangeShapes Go.WideShapes Go.ChangeAt Go.ChangeMaps Go.RowKit Go.Proofs.YtclemefgljlmfaaDoor.Own Go.Proofs.YtclemefgljlmfaaDoor.Open Go.Proofs.YtclemefgljlmfaaDoor.Door

theorem own : ownKnob Tryd.prog.godebug = none := by kernel_rfl
theorem laidOut : laidOutB Tryd.prog = true := by kernel_rfl

theorem door_met (os : Os) (args : Array Value) : laidMetH Tryd.prog Rows.linesNumbersRow.laid ((World.laidAll Tryd.prog os Rows.linesNumbersRow.laid).forCall (fun _ _ => 0) ⟨#[], args, []⟩).memory := by
  rw [MakeChecks.laidMetH_plain _ _ _ (by kernel_rfl)]
  exact laidMet_laidAll _ (by kernel_rfl) (by kernel_rfl)

set_option maxRecDepth 100000 in
theorem lifted (os : Os) (started : os.Started) (H : Type) (enc : TypeId × Value → H) :
    ReturnsInHanded {} Tryd.checked os 4 .any (fun w args => (Rows.linesNumbersSpec.pre enc Tryd.prog Tryd.f4 [] false w args ∧ laidMetH Tryd.prog Rows.linesNumbersRow.laid w) ∧ sizedMet enc Tryd.prog Tryd.f4 (OpenSpec.ofChange Rows.linesNumbersSpec) false w args) (Rows.linesNumbersSpec.post enc Tryd.prog Tryd.f4 false true false false) := by
  refine returnsInHanded_of_change_and (C := Tryd.checked) (X := fun w _ => laidMetH Tryd.prog Rows.linesNumbersRow.laid w) (fun _ _ _ hh h => h.of_heap hh) own started (by kernel_rfl) Tryd.func4
    (ChangeSpec.witness_shaped (enc := enc) (C := Tryd.checked) (os := os) (X := fun w _ => laidMetH Tryd.prog Rows.linesNumbersRow.laid w) false (World.laidAll Tryd.prog os Rows.linesNumbersRow.laid) #[.string ⟨#[]⟩, .int .i64 0] 8 (World.laidAll_os _ _ _) (World.shaped_of_ZipB (by kernel_rfl) (by kernel_rfl)) (by kernel_rfl) (by kernel_rfl) (by kernel_rfl) (door_met os _)) ?_
  intro W base args ds gs before hval0 hW _ _ hL _
  have hval : ∀ (j : Nat) t v, Tryd.f4.params[j]? = some t → args[j]? = some v → Value.okWide Tryd.prog W .any base t v := hval0
  have hW' := hW
  obtain ⟨p, q, hA0, hV, rfl, hfz, hnd⟩ := hW
  have hA : DataW.TrodAll enc Tryd.prog W 0 (fun _ => true) true Tryd.f4.params.toList args.toList ds p := hA0
  rw [Tryd.params4] at hA hval
  have hA1 := hA
  obtain ⟨v0, vs0, d0, ds0, p0, q0, hargs, rfl, rfl, h0, r0⟩ := trodAll_cons hA
  obtain ⟨v1, vs1, d1, ds1, p1, q1, rfl, rfl, rfl, h1, r1⟩ := trodAll_cons r0
  obtain ⟨rfl, rfl, rfl⟩ := trodAll_nil r1
  obtain rfl : args = #[v0, v1] := by cases args; simp_all
  obtain ⟨rfl, rfl⟩ := trodVars_none hV
  obtain ⟨a0, rfl, rfl, rfl, w0⟩ := open_string Tryd.underlying9 (hval 0 9 v0 rfl rfl) h0
  obtain ⟨a1, rfl, rfl, rfl, w1⟩ := open_int Tryd.underlying3 (hval 1 3 v1 rfl rfl) h1
  clear hA0 hval0
  simp only [List.append_nil] at hW' hA1
  refine (walk W (tabs_of hL) a0 w0 a1 w1).mono fun e W' ⟨he, hb⟩ => ?_
  subst he
  exact ⟨_, rfl, ⟨_, _, _, [], _, [], hW', trodAll_mk1 (shut_bool Tryd.underlying4 _), below_args laidOut hb (by kernel_rfl) hA1 (fun x hx => by simpa using hW'.lt x hx), rfl, hb.frame _, fun h => by cases h⟩⟩

theorem said : Rows.LinesNumbersSaid :=
  OpenClaim.holds_of_wide 4 Tryd.f4 rfl rfl rfl rfl rfl rfl rfl ⟨rfl, rfl, rfl, rfl, rfl⟩ rfl rfl rfl rfl rfl (by kernel_rfl) Tryd.func4 (by kernel_rfl)
    (of_decide_eq_true (by kernel_rfl)) (by unfold Func.isWrapper; first | (rw [if_pos (by decide +kernel)]; kernel_rfl) | (rw [if_neg (by decide +kernel)]; exact ⟨rfl, rfl⟩))
    (fun os started H enc _ => lifted os started H enc)

theorem proved : Rows.LinesNumbersCardSaid :=
  Claim7.holds_tied_plain_at .later [] [.data, .data, .data, .data, .sentinel, .sentinel, .pinned] true Rows.linesNumbersCard.stood.harness true
    said (fun _ h => by cases h) (by kernel_rfl) (fun _ h => by cases h) linesNumbers_row_tie rfl ⟨rfl, rfl⟩ (by kernel_rfl) rfl
    (fun f fn hf hfn => by
      obtain rfl : f = 4 := Option.some.inj ((show Tryd.prog.funcNamed "warrener/warrenerlaw08.LinesNumbers" = some 4 by kernel_rfl).symm.trans hf) |>.symm
      obtain rfl : fn = Tryd.f4 := (Option.some.inj (Tryd.func4.symm.trans hfn)).symm
      exact ⟨by kernel_rfl, fun j t ht => by
        have hm : t ∈ Tryd.f4.params := Array.mem_of_getElem? ht
        have hall : (Tryd.f4.params.all fun u => !Tryd.prog.wantsStandIn u) = true := by kernel_rfl
        have := Array.all_eq_true_iff_forall_mem.1 hall t hm
        exact (show Tryd.prog.wantsStandIn t = false by simpa using this)⟩)
    (by kernel_rfl)
end
end Go.Proofs.YtclemefgljlmfaaDoor.linesNumbers
