/-
  PaperParses answers true, whatever the text is. Condition: the seven variables that the row lists lie as their initialisers lay them.
-/
import Derived.Test.YtaffaliplmfagaaGreatDoorPap9
import Derived.Test.YtaffaliplmfagaaGreatDoorPap14
import Derived.Test.YtaffaliplmfagaaGreatDoorPap19
import Derived.Test.YtaffaliplmfagaaGreatDoorRefSplitC
import Derived.Test.YtaffaliplmfagaaGreatDoorOpen
import Derived.BigQuiet
import Derived.Lay
import Derived.MakeChecks
import Derived.Test.YtaffaliplmfagaaGreatDoorDoor
import Derived.Test.YtaffaliplmfagaaGreatDoorOpen
import Derived.Test.YtaffaliplmfagaaGreatDoorCards
import Derived.Test.YtaffaliplmfagaaGreatDoorTie
set_option linter.unusedVariables false
namespace Go.Proofs.YtaffaliplmfagaaGreatDoor.paperParses
open Go.RowKit Go.Sort Go.Proofs.YtaffaliplmfagaaGreatDoor.Own Go.Proofs.YtaffaliplmfagaaGreatDoor.Conv Go.Proofs.YtaffaliplmfagaaGreatDoor.Line Go.Proofs.YtaffaliplmfagaaGreatDoor.Calm Go.Proofs.YtaffaliplmfagaaGreatDoor.Oct

set_option linter.unusedSimpArgs false
theorem cells3 {w : World} {b : Nat} {x y z : Value} {t : TypeId} (h : Box w b #[x, y, z] t) : w.cell? ⟨b, 0, none⟩ = some x ∧ w.cell? ⟨b, 1, none⟩ = some y ∧ w.cell? ⟨b, 2, none⟩ = some z := ⟨h.cell 0, h.cell 1, h.cell 2⟩

set_option maxRecDepth 100000 in
set_option maxHeartbeats 8000000 in
theorem body (w : World) (hT : Door.Tabs w) (l0 : List UInt8) (hs : l0.length ≤ maxLen) :
    Calls Tryz.prog 4 #[.string ⟨l0.toArray⟩] w fun e w' => e = .returned (.bool true) ∧ Below w.heap.size w w' := by
  unfold maxLen at hs
  obtain ⟨l, hl⟩ : ∃ l, l0.take 400 = l := ⟨_, rfl⟩
  have hlen : l.length ≤ 400 := by rw [← hl, List.length_take]; omega
  obtain ⟨s0, hs0⟩ : ∃ s : ByteArray, (⟨l0.toArray⟩ : ByteArray) = s := ⟨_, rfl⟩
  obtain ⟨s1, hs1⟩ : ∃ s : ByteArray, (⟨l.toArray⟩ : ByteArray) = s := ⟨_, rfl⟩
  have hsz : s0.size = l0.length := by rw [← hs0]; exact mk_size l0
  have E1 : s0.extract 0 400 = s1 := by rw [← hs0, ← hs1, ext_take, hl]
  have E2 : s0.size ≤ 400 → s0 = s1 := fun h => by rw [← hs0, ← hs1, ← hl, List.take_of_length_le (by omega)]
  have hP := fun w hT => paperparse_is l hlen w hT
  have hW := fun w => refsplit_is l (by omega) w
  rw [hs1] at hP hW
  have HP := Lib.hid hP
  have HW := Lib.hid hW
  have HT := Lib.hid hT
  have HE2 := Lib.hid E2
  have HE1 := Lib.hid E1
  have HS1 := Lib.hid hs1
  have hm : s0.size ≤ 9223372036854775807 := by omega
  have hq1 : (s1.toList == s1.toList) = true := by simp
  rw [hs0]
  clear hl hs0 hs1 hsz hP hW hT E2 E1 hs
  go_enter Tryz.func4, Tryz.ntmps4
  go_wp2_with fail
  refine (alive_is w HT.out).mono ?_
  rintro e w1 ⟨rfl, k1⟩
  by_cases h80 : 400 < s0.size
  case' neg =>
    obtain rfl := (HE2.out (by omega)).symm
  case' pos =>
    have E1 := HE1.out
  all_goals
    clear HE1 HE2
    go_wp2_with fail
    refine (HP.out _ (HT.out.kept k1)).mono ?_
    rintro e w2 ⟨k2, hr⟩
    have hk2 := k1.trans k2 (fun _ _ f => f)
    clear k1 k2 HP
    rcases hr with ⟨n, er, rfl, her⟩ | ⟨vd, ed, A, C, fs, rfl, hfr, hok, htx, hsm⟩
    · go_upto_region 6 with fail
      have hx := Box.new w2 #[.int .i64 0, .int .i64 0, .slice none 0 0] 24
      have hk := hk2.alloc (.cells #[.int .i64 0, .int .i64 0, .slice none 0 0] 24)
      generalize w2.alloc _ = w3 at *
      generalize w2.heap.size = bx at *
      clear hk2
      go_wp2_with fail
      refine (HW.out w3).mono ?_
      rintro e w4 ⟨k4, v, rfl, hseg⟩
      obtain ⟨m, hmm⟩ : ∃ m, (linesL l).length = m := ⟨_, rfl⟩
      rw [hmm] at hseg her
      have hx4 := hx.kept k4 id
      have hk4 := hk.trans k4 (fun _ _ f => f)
      obtain ⟨-, ao, cw, rfl, -, -, -, -⟩ := hseg.rd
      clear hx hk k4 hseg hmm HW
      obtain ⟨d0, d1, d2⟩ := cells3 hx4
      rcases her with ⟨rfl, hnm⟩ | ⟨rfl, rfl⟩
      · have i1 : (n : Int) ≤ (m : Int) := by omega
        go_wp2_with fail
        refine (report_same w4 0 0 _ _ [] [] (FR.nil w4) (FR.nil w4) rfl).mono ?_
        rintro e w5 ⟨rfl, k5⟩
        have hk5 := hk4.trans k5 (fun _ _ f => f)
        go_wp2_with fail
        go_ret
        exact ⟨rfl, hk5.below (Nat.le_refl _) (fun _ _ => id)⟩
      · go_wp2_with fail
        refine (report_same w4 0 0 _ _ [] [] (FR.nil w4) (FR.nil w4) rfl).mono ?_
        rintro e w5 ⟨rfl, k5⟩
        have hk5 := hk4.trans k5 (fun _ _ f => f)
        go_wp2_with fail
        go_ret
        exact ⟨rfl, hk5.below (Nat.le_refl _) (fun _ _ => id)⟩
    · have HMY : Hid (∀ w', FR w' (.slice A fs.length C) fs → Calls Tryz.prog 7 #[.agg #[.int .i64 vd, .int .i64 ed, .slice A fs.length C]] w' fun e w'' => e = .returned (.bool true) ∧ Kept No w' w'') := Lib.hid (fun w' h => by
        rw [← hok]
        exact may_is vd ed A fs.length C fs w' h (fun f hf => by obtain ⟨t, ht⟩ := List.getElem?_of_mem hf; have := hsm.p t f ht; omega))
      have HTX : Hid (∀ w', Door.Tabs w' → FR w' (.slice A fs.length C) fs → Calls Tryz.prog 14 #[.agg #[.int .i64 vd, .int .i64 ed, .slice A fs.length C]] w' fun e w'' => e = .returned (.tuple #[.string s1, .int .i64 0]) ∧ Kept No w' w'') := Lib.hid (fun w' ht h => by
        refine (papertext_is vd ed A fs.length C fs w' ht h hsm).mono ?_
        rintro e w'' ⟨hk, ⟨hh, _⟩ | ⟨_, rfl⟩⟩
        · rw [hok] at hh; cases hh
        · rw [htx, HS1.out]; exact ⟨rfl, hk⟩)
      have HFR := Lib.hid hfr
      obtain ⟨q, hq⟩ : ∃ q, fs.length = q := ⟨_, rfl⟩
      rw [hq] at HMY HTX HFR ⊢
      obtain ⟨m, hmm⟩ : ∃ m, (linesL l).length = m := ⟨_, rfl⟩
      rw [hmm]
      have HM := Lib.hid hmm
      clear hfr hok htx hsm hq hmm
      go_upto_region 6 with fail
      have hx := Box.new w2 #[.int .i64 vd, .int .i64 ed, .slice A q C] 24
      have hk := hk2.alloc (.cells #[.int .i64 vd, .int .i64 ed, .slice A q C] 24)
      have HF3 := Lib.hid (HFR.out.kept ((Kept.refl No w2).alloc (.cells #[.int .i64 vd, .int .i64 ed, .slice A q C] 24)))
      generalize w2.alloc _ = w3 at *
      generalize w2.heap.size = bx at *
      clear hk2 HFR
      go_wp2_with fail
      refine (HW.out w3).mono ?_
      rintro e w4 ⟨k4, v, rfl, hseg⟩
      rw [HM.out] at hseg
      have hx4 := hx.kept k4 id
      have hk4 := hk.trans k4 (fun _ _ f => f)
      have HF4 := Lib.hid (HF3.out.kept k4)
      obtain ⟨-, ao, cw, rfl, -, -, -, -⟩ := hseg.rd
      have HTW := Lib.hid (HT.out.kept hk4)
      clear hx hk k4 hseg HW HF3
      obtain ⟨d0, d1, d2⟩ := cells3 hx4
      go_wp2_with fail
      refine (HTX.out w4 HTW.out HF4.out).mono ?_
      rintro e w5 ⟨rfl, k5⟩
      have hx5 := hx4.kept k5 id
      have hk5 := hk4.trans k5 (fun _ _ f => f)
      have HF5 := Lib.hid (HF4.out.kept k5)
      clear d0 d1 d2 hx4 hk4 k5 HF4 HTX
      obtain ⟨d0, d1, d2⟩ := cells3 hx5
      go_wp2_with fail
      refine (HMY.out w5 HF5.out).mono ?_
      rintro e w6 ⟨rfl, k6⟩
      have hk6 := hk5.trans k6 (fun _ _ f => f)
      go_wp2_with fail
      go_ret
      exact ⟨rfl, hk6.below (Nat.le_refl _) (fun _ _ => id)⟩

theorem walk (w : World) (hT : Door.Tabs w) (s : ByteArray) (hs : s.size ≤ maxLen) :
    Calls Tryz.prog 4 #[.string s] w fun e w' => e = .returned (.bool true) ∧ Below w.heap.size w w' := by
  have := body w hT s.data.toList (by simpa using hs)
  exact this

section
open Go.ChangeShapes Go.WideShapes Go.ChangeAt Go.ChangeMaps Go.RowKit Go.Proofs.YtaffaliplmfagaaGreatDoor.Own Go.Proofs.YtaffaliplmfagaaGreatDoor.Open Go.Proofs.YtaffaliplmfagaaGreatDoor.Door

theorem own : ownKnob Tryz.prog.godebug = none := by kernel_rfl
theorem laidOut : laidOutB Tryz.prog = true := by kernel_rfl

theorem door_met (os : Os) (args : Array Value) : laidMetH Tryz.prog Rows.paperParsesRow.laid ((World.laidAll Tryz.prog os Rows.paperParsesRow.laid).forCall (fun _ _ => 0) ⟨#[], args, []⟩).memory := by
  rw [MakeChecks.laidMetH_plain _ _ _ (by kernel_rfl)]
  exact laidMet_laidAll _ (by kernel_rfl) (by kernel_rfl)

set_option maxRecDepth 100000 in
theorem lifted (os : Os) (started : os.Started) (H : Type) (enc : TypeId × Value → H) :
    ReturnsInHanded {} Tryz.checked os 4 .any (fun w args => (Rows.paperParsesSpec.pre enc Tryz.prog Tryz.f4 [] false w args ∧ laidMetH Tryz.prog Rows.paperParsesRow.laid w) ∧ sizedMet enc Tryz.prog Tryz.f4 (OpenSpec.ofChange Rows.paperParsesSpec) false w args) (Rows.paperParsesSpec.post enc Tryz.prog Tryz.f4 false true false false) := by
  refine returnsInHanded_of_change_and (C := Tryz.checked) (X := fun w _ => laidMetH Tryz.prog Rows.paperParsesRow.laid w) (fun _ _ _ hh h => h.of_heap hh) own started (by kernel_rfl) Tryz.func4
    (ChangeSpec.witness_shaped (enc := enc) (C := Tryz.checked) (os := os) (X := fun w _ => laidMetH Tryz.prog Rows.paperParsesRow.laid w) false (World.laidAll Tryz.prog os Rows.paperParsesRow.laid) #[.string ⟨#[]⟩] 8 (World.laidAll_os _ _ _) (World.shaped_of_ZipB (by kernel_rfl) (by kernel_rfl)) (by kernel_rfl) (by kernel_rfl) (by kernel_rfl) (door_met os _)) ?_
  intro W base args ds gs before hval0 hW _ _ hL _
  have hval : ∀ (j : Nat) t v, Tryz.f4.params[j]? = some t → args[j]? = some v → Value.okWide Tryz.prog W .any base t v := hval0
  have hW' := hW
  obtain ⟨p, q, hA0, hV, rfl, hfz, hnd⟩ := hW
  have hA : DataW.TrodAll enc Tryz.prog W 0 (fun _ => true) true Tryz.f4.params.toList args.toList ds p := hA0
  rw [Tryz.params4] at hA hval
  have hA1 := hA
  obtain ⟨v0, vs0, d0, ds0, p0, q0, hargs, rfl, rfl, h0, r0⟩ := trodAll_cons hA
  obtain ⟨rfl, rfl, rfl⟩ := trodAll_nil r0
  obtain rfl : args = #[v0] := by cases args; simp_all
  obtain ⟨rfl, rfl⟩ := trodVars_none hV
  obtain ⟨a0, rfl, rfl, rfl, w0⟩ := open_string Tryz.underlying9 (hval 0 9 v0 rfl rfl) h0
  clear hA0 hval0
  simp only [List.append_nil] at hW' hA1
  refine (walk W (tabs_of hL) a0 w0).mono fun e W' ⟨he, hb⟩ => ?_
  subst he
  exact ⟨_, rfl, ⟨_, _, _, [], _, [], hW', trodAll_mk1 (shut_bool Tryz.underlying4 _), below_args laidOut hb (by kernel_rfl) hA1 (fun x hx => by simpa using hW'.lt x hx), rfl, hb.frame _, fun h => by cases h⟩⟩

theorem said : Rows.PaperParsesSaid :=
  OpenClaim.holds_of_wide 4 Tryz.f4 rfl rfl rfl rfl rfl rfl rfl ⟨rfl, rfl, rfl, rfl, rfl⟩ rfl rfl rfl rfl rfl (by kernel_rfl) Tryz.func4 (by kernel_rfl)
    (of_decide_eq_true (by kernel_rfl)) (by unfold Func.isWrapper; first | (rw [if_pos (by decide +kernel)]; kernel_rfl) | (rw [if_neg (by decide +kernel)]; exact ⟨rfl, rfl⟩))
    (fun os started H enc _ => lifted os started H enc)

theorem proved : Rows.PaperParsesCardSaid :=
  Claim7.holds_tied_plain_at .later [] [.data, .data, .data, .data, .sentinel, .sentinel, .pinned] true Rows.paperParsesCard.stood.harness true
    said (fun _ h => by cases h) (by kernel_rfl) (fun _ h => by cases h) paperParses_row_tie rfl ⟨rfl, rfl⟩ (by kernel_rfl) rfl
    (fun f fn hf hfn => by
      obtain rfl : f = 4 := Option.some.inj ((show Tryz.prog.funcNamed "warrener/warrenerlaw40.PaperParses" = some 4 by kernel_rfl).symm.trans hf) |>.symm
      obtain rfl : fn = Tryz.f4 := (Option.some.inj (Tryz.func4.symm.trans hfn)).symm
      exact ⟨by kernel_rfl, fun j t ht => by
        have hm : t ∈ Tryz.f4.params := Array.mem_of_getElem? ht
        have hall : (Tryz.f4.params.all fun u => !Tryz.prog.wantsStandIn u) = true := by kernel_rfl
        have := Array.all_eq_true_iff_forall_mem.1 hall t hm
        exact (show Tryz.prog.wantsStandIn t = false by simpa using this)⟩)
    (by kernel_rfl)
end
end Go.Proofs.YtaffaliplmfagaaGreatDoor.paperParses
