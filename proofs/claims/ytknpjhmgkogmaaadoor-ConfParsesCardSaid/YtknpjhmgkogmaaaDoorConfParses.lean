/-
  ConfParses answers true, whatever the text is. Condition: the seven variables that the row lists lie as their initialisers lay them.
-/
import Derived.Test.YtknpjhmgkogmaaaDoorConf5
import Derived.Test.YtknpjhmgkogmaaaDoorConf9
import Derived.Test.YtknpjhmgkogmaaaDoorConf10
import Derived.BigQuiet
import Derived.Lay
import Derived.MakeChecks
import Derived.Test.YtknpjhmgkogmaaaDoorDoor
import Derived.Test.YtknpjhmgkogmaaaDoorOpen
import Derived.Test.YtknpjhmgkogmaaaDoorCards
import Derived.Test.YtknpjhmgkogmaaaDoorTie
set_option linter.unusedVariables false
namespace Go.Proofs.YtknpjhmgkogmaaaDoor.confParses
open Go.RowKit Go.Sort Go.Proofs.YtknpjhmgkogmaaaDoor.Own Go.Proofs.YtknpjhmgkogmaaaDoor.Conv Go.Proofs.YtknpjhmgkogmaaaDoor.Line Go.Proofs.YtknpjhmgkogmaaaDoor.Calm Go.Proofs.YtknpjhmgkogmaaaDoor.Oct

set_option maxRecDepth 100000 in
set_option maxHeartbeats 8000000 in
theorem body (w : World) (hT : Door.Tabs w) (l0 : List UInt8) (hs : l0.length ≤ maxLen) :
    Calls Tryd.prog 4 #[.string ⟨l0.toArray⟩] w fun e w' => e = .returned (.bool true) ∧ Below w.heap.size w w' := by
  unfold maxLen at hs
  obtain ⟨l, hl⟩ : ∃ l, l0.take 80 = l := ⟨_, rfl⟩
  have hlen : l.length ≤ 80 := by rw [← hl, List.length_take]; omega
  obtain ⟨s0, hs0⟩ : ∃ s : ByteArray, (⟨l0.toArray⟩ : ByteArray) = s := ⟨_, rfl⟩
  obtain ⟨s1, hs1⟩ : ∃ s : ByteArray, (⟨l.toArray⟩ : ByteArray) = s := ⟨_, rfl⟩
  have hsz : s0.size = l0.length := by rw [← hs0]; exact mk_size l0
  have E1 : s0.extract 0 80 = s1 := by rw [← hs0, ← hs1, ext_take, hl]
  have E2 : s0.size ≤ 80 → s0 = s1 := fun h => by rw [← hs0, ← hs1, ← hl, List.take_of_length_le (by omega)]
  have hP := fun w hT => parse_is l (by omega) w hT
  have hW := fun w => lawwords_is l (by omega) w
  rw [hs1] at hP hW
  have HP := Lib.hid hP
  have HW := Lib.hid hW
  have HT := Lib.hid hT
  have HE2 := Lib.hid E2
  have HE1 := Lib.hid E1
  have hm : s0.size ≤ 9223372036854775807 := by omega
  rw [hs0]
  clear hl hs0 hs1 hsz hP hW hT E2 E1 hs
  generalize wordsL l = W at *
  go_enter Tryd.func4, Tryd.ntmps4
  go_wp2_with fail
  refine (alive_is w HT.out).mono ?_
  rintro e w1 ⟨rfl, k1⟩
  by_cases h80 : 80 < s0.size
  case' neg =>
    obtain rfl := HE2.out (by omega)
  case' pos =>
    have E1 := HE1.out
  all_goals
    clear HE1 HE2
    go_wp2_with fail
    refine (HP.out _ (HT.out.kept k1)).mono ?_
    rintro e w2 ⟨k2, hr⟩
    have hk2 := k1.trans k2 (fun _ _ f => f)
    clear k1 k2 HP
    rcases hr with ⟨_, rfl⟩ | ⟨hl8, f0, f1, f2, f3, f4, f5, f6, f7, hf, ⟨_, rfl⟩ | ⟨hok, rfl⟩⟩
    · unfold cfg0 ask0
      go_upto_region 6 with fail
      have hx := (Box.new w2 cfg0 23).alloc (.cells ask0 25)
      have hy := Box.new (w2.alloc (.cells cfg0 23)) ask0 25
      have hk := (hk2.alloc (.cells cfg0 23)).alloc (.cells ask0 25)
      simp only [World.size_alloc] at hy
      unfold cfg0 ask0 at hx hy hk
      generalize (w2.alloc _).alloc _ = w3 at *
      generalize w2.heap.size = bx at *
      obtain ⟨c0, c1, c2, c3, c4⟩ := cells5 hx
      obtain ⟨d0, d1, d2⟩ := cells3 hy
      go_wp2_with fail
      go_ret
      exact ⟨rfl, hk.below (Nat.le_refl _) (fun _ _ => id)⟩
    · unfold cfg0 ask0
      go_upto_region 6 with fail
      have hx := (Box.new w2 cfg0 23).alloc (.cells ask0 25)
      have hy := Box.new (w2.alloc (.cells cfg0 23)) ask0 25
      have hk := (hk2.alloc (.cells cfg0 23)).alloc (.cells ask0 25)
      simp only [World.size_alloc] at hy
      unfold cfg0 ask0 at hx hy hk
      generalize (w2.alloc _).alloc _ = w3 at *
      generalize w2.heap.size = bx at *
      obtain ⟨c0, c1, c2, c3, c4⟩ := cells5 hx
      obtain ⟨d0, d1, d2⟩ := cells3 hy
      go_wp2_with fail
      go_ret
      exact ⟨rfl, hk.below (Nat.le_refl _) (fun _ _ => id)⟩
    · obtain ⟨f5', hf5⟩ : ∃ n, f5 + 1 = n := ⟨_, rfl⟩
      obtain ⟨sb, hsb⟩ : ∃ b, (f7 == 1) = b := ⟨_, rfl⟩
      have hWq := parse_words hl8 hf hok
      rw [hf5, hsb] at hWq
      rw [hf5] at hok
      rw [hf5, hsb]
      rw [Bool.and_eq_true] at hok
      obtain ⟨h1, h2⟩ := hok
      have hR1 := refcheck_is f0 f1 f2 f3 f4
      have hR2 := refcheckask_is f5' f6 sb
      rw [h1] at hR1
      rw [h2] at hR2
      have HR1 := Lib.hid hR1
      have HR2 := Lib.hid hR2
      have hWL := fun w => lawwords_is (Lib.join (confW f0 f1 f2 f3 f4 f5' f6 sb) [32]) (Nat.le_trans (confW_len h1 h2) (by omega)) w
      rw [conf_words h1 h2 sb] at hWL
      have hRL := fun w => refline_is f0 f1 f2 f3 f4 f5' f6 sb h1 h2 w
      obtain ⟨sl, hsl⟩ : ∃ s : ByteArray, (⟨(Lib.join (confW f0 f1 f2 f3 f4 f5' f6 sb) [32]).toArray⟩ : ByteArray) = s := ⟨_, rfl⟩
      rw [hsl] at hWL hRL
      rw [← hWq] at hWL
      have HWL := Lib.hid hWL
      have HRL := Lib.hid hRL
      clear hl8 hf hf5 hsb hWq h1 h2 hR1 hR2 hWL hRL hsl
      go_upto_region 6 with fail
      have hx := (Box.new w2 #[.int .i64 f0, .int .i64 f1, .int .i64 f2, .int .i64 f3, .int .i64 f4] 23).alloc (.cells #[.int .i64 f5', .int .i64 f6, .bool sb] 25)
      have hy := Box.new (w2.alloc (.cells #[.int .i64 f0, .int .i64 f1, .int .i64 f2, .int .i64 f3, .int .i64 f4] 23)) #[.int .i64 f5', .int .i64 f6, .bool sb] 25
      have hk := (hk2.alloc (.cells #[.int .i64 f0, .int .i64 f1, .int .i64 f2, .int .i64 f3, .int .i64 f4] 23)).alloc (.cells #[.int .i64 f5', .int .i64 f6, .bool sb] 25)
      simp only [World.size_alloc] at hy
      generalize (w2.alloc _).alloc _ = w3 at *
      generalize w2.heap.size = bx at *
      clear hk2
      obtain ⟨c0, c1, c2, c3, c4⟩ := kw5 hx
      obtain ⟨d0, d1, d2⟩ := KW.box3 hy
      go_upto_region 8 with fail
      refine wp_region_dyn ([0] ++ 1 :: ([2, 3] ++ 4 :: ([5, 6, 7, 9, 10] ++ 8 :: 11 :: 12 :: 13 :: ([14, 15] ++ [])))) (by kernel_rfl) (by kernel_rfl) ?_
      refine dyn_reads _ _ (by kernel_rfl) ?_
      simp only [sel, List.filterMap_cons, List.filterMap_nil, List.getElem?_cons_zero]
      repeat (show wpQuiet _ _ _ _ (_ :: _) _; go_big_quiet_step (fail))
      refine wpQuiet_nil ?_
      refine dyn_fn 8 #[.agg #[.int .i64 f0, .int .i64 f1, .int .i64 f2, .int .i64 f3, .int .i64 f4]] rfl rfl rfl (by intro w; go_simp) ?_
      intro p
      refine (HR1.out p.w).mono ?_
      rintro e w4 ⟨rfl, k4⟩
      have k4 := p.h.trans k4 (fun _ _ f => f)
      refine ⟨_, rfl, by assumption, ?_⟩
      simp only [Act.put, List.setIfInBounds_toArray, List.set]
      have hx4 := hx.kept k4 id
      have hy4 := hy.kept k4 id
      have hk4 := hk.trans k4 (fun _ _ f => f)
      clear c0 c1 c2 c3 c4 d0 d1 d2
      obtain ⟨c0, c1, c2, c3, c4⟩ := kw5 hx4
      obtain ⟨d0, d1, d2⟩ := KW.box3 hy4
      refine dyn_reads _ _ (by kernel_rfl) ?_
      simp only [sel, List.filterMap_cons, List.filterMap_nil, List.getElem?_cons_succ, List.getElem?_cons_zero]
      repeat (show wpQuiet _ _ _ _ (_ :: _) _; go_big_quiet_step (fail))
      refine wpQuiet_nil ?_
      refine dyn_fn_g 9 #[.agg #[.int .i64 f5', .int .i64 f6, .bool sb]] rfl rfl (by first | rfl | kernel_rfl) (by intro w; go_simp) ?_
      intro p
      refine (HR2.out p.w).mono ?_
      rintro e w5 ⟨rfl, k5⟩
      have k5 := p.h.trans k5 (fun _ _ f => f)
      refine ⟨_, rfl, by assumption, ?_⟩
      simp only [Act.put, List.setIfInBounds_toArray, List.set]
      have hx5 := hx4.kept k5 id
      have hy5 := hy4.kept k5 id
      have hk5 := hk4.trans k5 (fun _ _ f => f)
      clear c0 c1 c2 c3 c4 d0 d1 d2
      obtain ⟨c0, c1, c2, c3, c4⟩ := kw5 hx5
      obtain ⟨d0, d1, d2⟩ := KW.box3 hy5
      refine dyn_reads _ _ (by kernel_rfl) ?_
      simp only [sel, List.filterMap_cons, List.filterMap_nil, List.getElem?_cons_succ, List.getElem?_cons_zero]
      repeat (show wpQuiet _ _ _ _ (_ :: _) _; go_big_quiet_step (fail))
      refine wpQuiet_nil ?_
      clear c0 c1 c2 c3 c4 d0 d1 d2
      refine dyn_fn_g 18 #[.string (by first | exact s1 | exact s0)] rfl rfl (by first | rfl | kernel_rfl) (by intro w; go_simp) ?_
      intro p
      refine (HW.out p.w).mono ?_
      rintro e w6 ⟨k6, v1, rfl, hv1⟩
      have hk6 := hk5.trans (p.h.trans k6 (fun _ _ f => f)) (fun _ _ f => f)
      refine ⟨_, rfl, k6, ?_⟩
      simp only [Act.put, List.setIfInBounds_toArray, List.set]
      refine dyn_fn_g 15 #[.agg #[.int .i64 f0, .int .i64 f1, .int .i64 f2, .int .i64 f3, .int .i64 f4], .agg #[.int .i64 f5', .int .i64 f6, .bool sb]] rfl rfl (by first | rfl | kernel_rfl) (by intro w; go_simp) ?_
      intro p
      refine (HRL.out p.w).mono ?_
      rintro e w7 ⟨rfl, k7⟩
      have hk7 := hk6.trans (p.h.trans k7 (fun _ _ f => f)) (fun _ _ f => f)
      have hv7 := hv1.kept (p.h.trans k7 (fun _ _ f => f)) (fun _ _ f => f)
      refine ⟨_, rfl, k7, ?_⟩
      simp only [Act.put, List.setIfInBounds_toArray, List.set]
      refine dyn_fn_g 18 #[.string sl] rfl rfl (by first | rfl | kernel_rfl) (by intro w; go_simp) ?_
      intro p
      refine (HWL.out p.w).mono ?_
      rintro e w8 ⟨k8, v2, rfl, hv2⟩
      have hk8 := hk7.trans (p.h.trans k8 (fun _ _ f => f)) (fun _ _ f => f)
      have hv8 := hv7.kept (p.h.trans k8 (fun _ _ f => f)) (fun _ _ f => f)
      refine ⟨_, rfl, k8, ?_⟩
      simp only [Act.put, List.setIfInBounds_toArray, List.set]
      refine dyn_fn_g 17 #[v1, v2] rfl rfl (by first | rfl | kernel_rfl) (by intro w; go_simp) ?_
      intro p
      refine (texts_is p.w v1 v2 _ _ W W (hv8.kept p.h (fun _ _ f => f)).rd (hv2.kept p.h (fun _ _ f => f)).rd).mono ?_
      rw [decide_eq_true (rfl : W = W)]
      rintro e w9 ⟨rfl, k9⟩
      have hk9 := hk8.trans (p.h.trans k9 (fun _ _ f => f)) (fun _ _ f => f)
      refine ⟨_, rfl, k9, ?_⟩
      simp only [Act.put, List.setIfInBounds_toArray, List.set]
      refine dyn_reads (rest := []) [14, 15] _ (by kernel_rfl) ?_
      simp only [sel, List.filterMap_cons, List.filterMap_nil, List.getElem?_cons_succ, List.getElem?_cons_zero]
      repeat (show wpQuiet _ _ _ _ (_ :: _) _; go_big_quiet_step (fail))
      refine wpQuiet_nil ?_
      refine dyn_nil fun p => ?_
      have hkE := hk9.trans p.h (fun _ _ f => f)
      go_wp2_with fail
      go_ret
      exact ⟨rfl, hkE.below (Nat.le_refl _) (fun _ _ => id)⟩

theorem walk (w : World) (hT : Door.Tabs w) (s : ByteArray) (hs : s.size ≤ maxLen) :
    Calls Tryd.prog 4 #[.string s] w fun e w' => e = .returned (.bool true) ∧ Below w.heap.size w w' := by
  have := body w hT s.data.toList (by simpa using hs)
  exact this

section
open Go.ChangeShapes Go.WideShapes Go.ChangeAt Go.ChangeMaps Go.RowKit Go.Proofs.YtknpjhmgkogmaaaDoor.Own Go.Proofs.YtknpjhmgkogmaaaDoor.Open Go.Proofs.YtknpjhmgkogmaaaDoor.Door

theorem own : ownKnob Tryd.prog.godebug = none := by kernel_rfl
theorem laidOut : laidOutB Tryd.prog = true := by kernel_rfl

theorem door_met (os : Os) (args : Array Value) : laidMetH Tryd.prog Rows.confParsesRow.laid ((World.laidAll Tryd.prog os Rows.confParsesRow.laid).forCall (fun _ _ => 0) ⟨#[], args, []⟩).memory := by
  rw [MakeChecks.laidMetH_plain _ _ _ (by kernel_rfl)]
  exact laidMet_laidAll _ (by kernel_rfl) (by kernel_rfl)

set_option maxRecDepth 100000 in
theorem lifted (os : Os) (started : os.Started) (H : Type) (enc : TypeId × Value → H) :
    ReturnsInHanded {} Tryd.checked os 4 .any (fun w args => (Rows.confParsesSpec.pre enc Tryd.prog Tryd.f4 [] false w args ∧ laidMetH Tryd.prog Rows.confParsesRow.laid w) ∧ sizedMet enc Tryd.prog Tryd.f4 (OpenSpec.ofChange Rows.confParsesSpec) false w args) (Rows.confParsesSpec.post enc Tryd.prog Tryd.f4 false true false false) := by
  refine returnsInHanded_of_change_and (C := Tryd.checked) (X := fun w _ => laidMetH Tryd.prog Rows.confParsesRow.laid w) (fun _ _ _ hh h => h.of_heap hh) own started (by kernel_rfl) Tryd.func4
    (ChangeSpec.witness_shaped (enc := enc) (C := Tryd.checked) (os := os) (X := fun w _ => laidMetH Tryd.prog Rows.confParsesRow.laid w) false (World.laidAll Tryd.prog os Rows.confParsesRow.laid) #[.string ⟨#[]⟩] 8 (World.laidAll_os _ _ _) (World.shaped_of_ZipB (by kernel_rfl) (by kernel_rfl)) (by kernel_rfl) (by kernel_rfl) (by kernel_rfl) (door_met os _)) ?_
  intro W base args ds gs before hval0 hW _ _ hL _
  have hval : ∀ (j : Nat) t v, Tryd.f4.params[j]? = some t → args[j]? = some v → Value.okWide Tryd.prog W .any base t v := hval0
  have hW' := hW
  obtain ⟨p, q, hA0, hV, rfl, hfz, hnd⟩ := hW
  have hA : DataW.TrodAll enc Tryd.prog W 0 (fun _ => true) true Tryd.f4.params.toList args.toList ds p := hA0
  rw [Tryd.params4] at hA hval
  have hA1 := hA
  obtain ⟨v0, vs0, d0, ds0, p0, q0, hargs, rfl, rfl, h0, r0⟩ := trodAll_cons hA
  obtain ⟨rfl, rfl, rfl⟩ := trodAll_nil r0
  obtain rfl : args = #[v0] := by cases args; simp_all
  obtain ⟨rfl, rfl⟩ := trodVars_none hV
  obtain ⟨a0, rfl, rfl, rfl, w0⟩ := open_string Tryd.underlying9 (hval 0 9 v0 rfl rfl) h0
  clear hA0 hval0
  simp only [List.append_nil] at hW' hA1
  refine (walk W (tabs_of hL) a0 w0).mono fun e W' ⟨he, hb⟩ => ?_
  subst he
  exact ⟨_, rfl, ⟨_, _, _, [], _, [], hW', trodAll_mk1 (shut_bool Tryd.underlying4 _), below_args laidOut hb (by kernel_rfl) hA1 (fun x hx => by simpa using hW'.lt x hx), rfl, hb.frame _, fun h => by cases h⟩⟩

theorem said : Rows.ConfParsesSaid :=
  OpenClaim.holds_of_wide 4 Tryd.f4 rfl rfl rfl rfl rfl rfl rfl ⟨rfl, rfl, rfl, rfl, rfl⟩ rfl rfl rfl rfl rfl (by kernel_rfl) Tryd.func4 (by kernel_rfl)
    (of_decide_eq_true (by kernel_rfl)) (by unfold Func.isWrapper; first | (rw [if_pos (by decide +kernel)]; kernel_rfl) | (rw [if_neg (by decide +kernel)]; exact ⟨rfl, rfl⟩))
    (fun os started H enc _ => lifted os started H enc)

theorem proved : Rows.ConfParsesCardSaid :=
  Claim7.holds_tied_plain_at .later [] [.data, .data, .data, .data, .sentinel, .sentinel, .pinned] true Rows.confParsesCard.stood.harness true
    said (fun _ h => by cases h) (by kernel_rfl) (fun _ h => by cases h) confParses_row_tie rfl ⟨rfl, rfl⟩ (by kernel_rfl) rfl
    (fun f fn hf hfn => by
      obtain rfl : f = 4 := Option.some.inj ((show Tryd.prog.funcNamed "warrener/warrenerlaw14.ConfParses" = some 4 by kernel_rfl).symm.trans hf) |>.symm
      obtain rfl : fn = Tryd.f4 := (Option.some.inj (Tryd.func4.symm.trans hfn)).symm
      exact ⟨by kernel_rfl, fun j t ht => by
        have hm : t ∈ Tryd.f4.params := Array.mem_of_getElem? ht
        have hall : (Tryd.f4.params.all fun u => !Tryd.prog.wantsStandIn u) = true := by kernel_rfl
        have := Array.all_eq_true_iff_forall_mem.1 hall t hm
        exact (show Tryd.prog.wantsStandIn t = false by simpa using this)⟩)
    (by kernel_rfl)
end
end Go.Proofs.YtknpjhmgkogmaaaDoor.confParses
