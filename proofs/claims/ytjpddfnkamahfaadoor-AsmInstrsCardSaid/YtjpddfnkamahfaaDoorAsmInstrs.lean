/-
  AsmInstrs answers true, whatever the text is. Condition: the seven variables that the row lists lie as their initialisers lay them.
-/
import Derived.Test.YtjpddfnkamahfaaDoorLive13
import Derived.Test.YtjpddfnkamahfaaDoorRefIns
import Derived.BigQuiet
import Derived.Lay
import Derived.MakeChecks
import Derived.Test.YtjpddfnkamahfaaDoorDoor
import Derived.Test.YtjpddfnkamahfaaDoorOpen
import Derived.Test.YtjpddfnkamahfaaDoorCards
import Derived.Test.YtjpddfnkamahfaaDoorTie
set_option linter.unusedVariables false
namespace Go.Proofs.YtjpddfnkamahfaaDoor.asmInstrs
open Go.RowKit Go.Proofs.YtjpddfnkamahfaaDoor.Own Go.Proofs.YtjpddfnkamahfaaDoor.Conv Go.Proofs.YtjpddfnkamahfaaDoor.Line

theorem cut_law (s : ByteArray) (m : Nat) (hs : s.size ≤ maxLen) (hm : m ≤ 1000000) (w : World) :
    Calls Tryd.prog 7 #[.string s, .int .i64 m] w fun e w' => e = .returned (.string ⟨(s.data.toList.take m).toArray⟩) ∧ w' = w := by
  obtain ⟨s1, hs1⟩ : ∃ s1 : ByteArray, (⟨(s.data.toList.take m).toArray⟩ : ByteArray) = s1 := ⟨_, rfl⟩
  have e1 : s.extract 0 m = s1 := by
    have := ext_take s.data.toList m
    rw [hs1] at this
    exact this
  have e2 : s.size ≤ m → s = s1 := fun h => by
    rw [← hs1, List.take_of_length_le (by simpa using h)]
  rw [hs1]
  unfold maxLen at hs
  have E2 := Lib.hid e2
  clear e2 hs1
  by_cases h : m < s.size
  · have c1 : (0 : Int) ≤ m := by omega
    go_enter Tryd.func7, Tryd.ntmps7
    go_wp2_with fail
    go_ret
    first | exact ⟨rfl, rfl⟩ | exact ⟨by rw [e1], rfl⟩
  · obtain rfl := E2.out (by omega)
    clear e1
    go_enter Tryd.func7, Tryd.ntmps7
    go_wp2_with fail
    go_ret
    exact ⟨rfl, rfl⟩

set_option maxHeartbeats 4000000 in
theorem walk (w : World) (hT : Door.Tabs w) (s : ByteArray) (hs : s.size ≤ maxLen) :
    Calls Tryd.prog 3 #[.string s] w fun e w' => e = .returned (.bool true) ∧ Below w.heap.size w w' := by
  obtain ⟨l, hl⟩ : ∃ l, s.data.toList.take 100 = l := ⟨_, rfl⟩
  have hlen : l.length ≤ 100 := by rw [← hl, List.length_take]; omega
  have hcut := fun w => cut_law s 100 hs (by omega) w
  rw [hl] at hcut
  have h1 := fun w hT => asminstr_is l (by omega) w hT
  have h2 := fun w => refins_is l (by omega) w
  obtain ⟨sl, hsl⟩ : ∃ y : ByteArray, (⟨l.toArray⟩ : ByteArray) = y := ⟨_, rfl⟩
  rw [hsl] at hcut h1 h2
  have HT := Lib.hid hT
  have HC := Lib.hid hcut
  have H1 := Lib.hid h1
  have H2 := Lib.hid h2
  clear hT hcut h1 h2 hl hlen hsl
  generalize instrL l = x at *
  obtain ⟨z, a, b, c, n, ee⟩ := x
  unfold insV insC at H1 H2
  go_enter Tryd.func3, Tryd.ntmps3
  go_wp2_with fail
  refine (alive_is w HT.out).mono ?_
  rintro e w1 ⟨rfl, k1⟩
  have K1 := Lib.hid k1
  clear k1
  go_wp2_with fail
  refine (HC.out w1).mono ?_
  rintro e w1' ⟨rfl, rfl⟩
  go_wp2_with fail
  refine (H1.out w1' (HT.out.kept K1.out)).mono ?_
  rintro e w2 ⟨rfl, k2⟩
  have hk2 := Lib.hid (K1.out.trans k2 (fun _ _ f => f))
  clear k2
  go_upto_region 5 with fail
  have hb := Lib.hid (Box.new w2 #[.int .i64 z, .int .i64 a, .int .i64 b, .int .i64 c, .int .i64 n] 25)
  have hk := Lib.hid (hk2.out.alloc (.cells #[.int .i64 z, .int .i64 a, .int .i64 b, .int .i64 c, .int .i64 n] 25))
  generalize w2.alloc (.cells #[.int .i64 z, .int .i64 a, .int .i64 b, .int .i64 c, .int .i64 n] 25) = w3 at *
  go_wp2_with fail
  refine (H2.out w3).mono ?_
  rintro e w4 ⟨rfl, k4⟩
  have hb4 := Lib.hid ((hb.out.kept k4 id).alloc (.cells #[.int .i64 z, .int .i64 a, .int .i64 b, .int .i64 c, .int .i64 n] 25))
  have hx4 := Lib.hid (Box.new w4 #[.int .i64 z, .int .i64 a, .int .i64 b, .int .i64 c, .int .i64 n] 25)
  have hk4 := Lib.hid ((hk.out.trans k4 (fun _ _ f => f)).alloc (.cells #[.int .i64 z, .int .i64 a, .int .i64 b, .int .i64 c, .int .i64 n] 25))
  clear k4
  go_upto_region 6 with fail
  generalize w4.alloc (.cells #[.int .i64 z, .int .i64 a, .int .i64 b, .int .i64 c, .int .i64 n] 25) = w5 at *
  have c0 := hb4.out.cell 0
  have c1 := hb4.out.cell 1
  have c2 := hb4.out.cell 2
  have c3 := hb4.out.cell 3
  have c4 := hb4.out.cell 4
  have d0 := hx4.out.cell 0
  have d1 := hx4.out.cell 1
  have d2 := hx4.out.cell 2
  have d3 := hx4.out.cell 3
  have d4 := hx4.out.cell 4
  simp only [List.getElem?_toArray, List.getElem?_cons_zero, List.getElem?_cons_succ] at c0 c1 c2 c3 c4 d0 d1 d2 d3 d4
  go_wp2_with fail
  go_ret
  exact ⟨by simp, hk4.out.below (Nat.le_refl _) (fun _ _ => id)⟩

section
open Go.ChangeShapes Go.WideShapes Go.ChangeAt Go.ChangeMaps Go.RowKit Go.Proofs.YtjpddfnkamahfaaDoor.Own Go.Proofs.YtjpddfnkamahfaaDoor.Open Go.Proofs.YtjpddfnkamahfaaDoor.Door

theorem own : ownKnob Tryd.prog.godebug = none := by kernel_rfl
theorem laidOut : laidOutB Tryd.prog = true := by kernel_rfl

theorem door_met (os : Os) (args : Array Value) : laidMetH Tryd.prog Rows.asmInstrsRow.laid ((World.laidAll Tryd.prog os Rows.asmInstrsRow.laid).forCall (fun _ _ => 0) ⟨#[], args, []⟩).memory := by
  rw [MakeChecks.laidMetH_plain _ _ _ (by kernel_rfl)]
  exact laidMet_laidAll _ (by kernel_rfl) (by kernel_rfl)

set_option maxRecDepth 100000 in
theorem lifted (os : Os) (started : os.Started) (H : Type) (enc : TypeId × Value → H) :
    ReturnsInHanded {} Tryd.checked os 3 .any (fun w args => (Rows.asmInstrsSpec.pre enc Tryd.prog Tryd.f3 [] false w args ∧ laidMetH Tryd.prog Rows.asmInstrsRow.laid w) ∧ sizedMet enc Tryd.prog Tryd.f3 (OpenSpec.ofChange Rows.asmInstrsSpec) false w args) (Rows.asmInstrsSpec.post enc Tryd.prog Tryd.f3 false true false false) := by
  refine returnsInHanded_of_change_and (C := Tryd.checked) (X := fun w _ => laidMetH Tryd.prog Rows.asmInstrsRow.laid w) (fun _ _ _ hh h => h.of_heap hh) own started (by kernel_rfl) Tryd.func3
    (ChangeSpec.witness_shaped (enc := enc) (C := Tryd.checked) (os := os) (X := fun w _ => laidMetH Tryd.prog Rows.asmInstrsRow.laid w) false (World.laidAll Tryd.prog os Rows.asmInstrsRow.laid) #[.string ⟨#[]⟩] 8 (World.laidAll_os _ _ _) (World.shaped_of_ZipB (by kernel_rfl) (by kernel_rfl)) (by kernel_rfl) (by kernel_rfl) (by kernel_rfl) (door_met os _)) ?_
  intro W base args ds gs before hval0 hW _ _ hL _
  have hval : ∀ (j : Nat) t v, Tryd.f3.params[j]? = some t → args[j]? = some v → Value.okWide Tryd.prog W .any base t v := hval0
  have hW' := hW
  obtain ⟨p, q, hA0, hV, rfl, hfz, hnd⟩ := hW
  have hA : DataW.TrodAll enc Tryd.prog W 0 (fun _ => true) true Tryd.f3.params.toList args.toList ds p := hA0
  rw [Tryd.params3] at hA hval
  have hA1 := hA
  obtain ⟨v0, vs0, d0, ds0, p0, q0, hargs, rfl, rfl, h0, r0⟩ := trodAll_cons hA
  obtain ⟨rfl, rfl, rfl⟩ := trodAll_nil r0
  obtain rfl : args = #[v0] := by cases args; simp_all
  obtain ⟨rfl, rfl⟩ := trodVars_none hV
  obtain ⟨a0, rfl, rfl, rfl, w0⟩ := open_string Tryd.underlying9 (hval 0 9 v0 rfl rfl) h0
  clear hA0 hval0
  simp only [List.append_nil] at hW' hA1
  refine (walk W (tabs_of hL) a0 w0).mono fun e W' ⟨he, hb⟩ => ?_
  subst he
  exact ⟨_, rfl, ⟨_, _, _, [], _, [], hW', trodAll_mk1 (shut_bool Tryd.underlying4 _), below_args laidOut hb (by kernel_rfl) hA1 (fun x hx => by simpa using hW'.lt x hx), rfl, hb.frame _, fun h => by cases h⟩⟩

theorem said : Rows.AsmInstrsSaid :=
  OpenClaim.holds_of_wide 3 Tryd.f3 rfl rfl rfl rfl rfl rfl rfl ⟨rfl, rfl, rfl, rfl, rfl⟩ rfl rfl rfl rfl rfl (by kernel_rfl) Tryd.func3 (by kernel_rfl)
    (of_decide_eq_true (by kernel_rfl)) (by unfold Func.isWrapper; first | (rw [if_pos (by decide +kernel)]; kernel_rfl) | (rw [if_neg (by decide +kernel)]; exact ⟨rfl, rfl⟩))
    (fun os started H enc _ => lifted os started H enc)

theorem proved : Rows.AsmInstrsCardSaid :=
  Claim7.holds_tied_plain_at .later [] [.data, .data, .data, .data, .sentinel, .sentinel, .pinned] true Rows.asmInstrsCard.stood.harness true
    said (fun _ h => by cases h) (by kernel_rfl) (fun _ h => by cases h) asmInstrs_row_tie rfl ⟨rfl, rfl⟩ (by kernel_rfl) rfl
    (fun f fn hf hfn => by
      obtain rfl : f = 3 := Option.some.inj ((show Tryd.prog.funcNamed "warrener/warrenerlaw13.AsmInstrs" = some 3 by kernel_rfl).symm.trans hf) |>.symm
      obtain rfl : fn = Tryd.f3 := (Option.some.inj (Tryd.func3.symm.trans hfn)).symm
      exact ⟨by kernel_rfl, fun j t ht => by
        have hm : t ∈ Tryd.f3.params := Array.mem_of_getElem? ht
        have hall : (Tryd.f3.params.all fun u => !Tryd.prog.wantsStandIn u) = true := by kernel_rfl
        have := Array.all_eq_true_iff_forall_mem.1 hall t hm
        exact (show Tryd.prog.wantsStandIn t = false by simpa using this)⟩)
    (by kernel_rfl)
end
end Go.Proofs.YtjpddfnkamahfaaDoor.asmInstrs
