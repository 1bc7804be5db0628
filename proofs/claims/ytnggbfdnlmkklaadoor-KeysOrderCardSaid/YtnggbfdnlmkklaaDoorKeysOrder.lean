/-
  KeysOrder answers true, whatever the two keys are. Condition: the seven variables that the row lists lie as their initialisers lay them.
-/
import Derived.Test.YtnggbfdnlmkklaaDoorKeyLive
import Derived.Test.YtnggbfdnlmkklaaDoorOpenRows
import Derived.BigQuiet
import Derived.Deep.DeepCutAuto
import Derived.Deep.CutBlock
import Derived.Lay
import Derived.MakeChecks
import Derived.Test.YtnggbfdnlmkklaaDoorDoor
import Derived.Test.YtnggbfdnlmkklaaDoorOpen
import Derived.Test.YtnggbfdnlmkklaaDoorCards
import Derived.Test.YtnggbfdnlmkklaaDoorTie
set_option linter.unusedVariables false
namespace Go.Proofs.YtnggbfdnlmkklaaDoor.keysOrder
open Go.RowKit Go.Sort Go.Proofs.YtnggbfdnlmkklaaDoor.Own Go.Proofs.YtnggbfdnlmkklaaDoor.Line Go.Proofs.YtnggbfdnlmkklaaDoor.Calm

theorem swap_less (k i j k2 i2 j2 : Int) (h : ¬ (k = k2 ∧ i = i2 ∧ j = j2)) : lessB k2 i2 j2 k i j = !lessB k i j k2 i2 j2 := by
  have e1 : ∀ a b c d e f : Int, lessB a b c d e f = true ↔ a < d ∨ (a = d ∧ (b < e ∨ (b = e ∧ c < f))) := by
    intro a b c d e f
    unfold lessB
    split
    · simp only [decide_eq_true_eq]; omega
    · split
      · simp only [decide_eq_true_eq]; omega
      · simp only [decide_eq_true_eq]; omega
  have e2 := e1 k2 i2 j2 k i j
  have e3 := e1 k i j k2 i2 j2
  cases h1 : lessB k2 i2 j2 k i j <;> cases h2 : lessB k i j k2 i2 j2 <;> simp only [h1, h2, Bool.false_eq_true, true_iff, false_iff, Bool.not_false, Bool.not_true] at e2 e3 ⊢ <;> omega

set_option maxRecDepth 100000 in
set_option maxHeartbeats 8000000 in
theorem body (w : World) (hT : Door.Tabs w) (k i j k2 i2 j2 : Int) (L L' b : Bool) (h1 : lessB k i j k2 i2 j2 = L) (h2 : lessB k2 i2 j2 k i j = L') (h3 : isKey k i j = b)
    (hc : (k = k2 ∧ i = i2 ∧ j = j2 ∧ L = false ∧ L' = false) ∨ (¬ k = k2 ∧ L' = !L) ∨ (k = k2 ∧ ¬ i = i2 ∧ L' = !L) ∨ (k = k2 ∧ i = i2 ∧ ¬ j = j2 ∧ L' = !L)) :
    Calls Tryd.prog 3 #[.agg #[.int .i64 k, .int .i64 i, .int .i64 j], .agg #[.int .i64 k2, .int .i64 i2, .int .i64 j2]] w fun e w' => e = .returned (.bool true) ∧ Below w.heap.size w w' := by
  have c1 : ∀ w, Calls Tryd.prog 7 #[.agg #[.int .i64 k, .int .i64 i, .int .i64 j], .agg #[.int .i64 k2, .int .i64 i2, .int .i64 j2]] w fun e w' => e = .returned (.bool L) ∧ Kept No w w' := fun w => by rw [← h1]; exact less_is k i j k2 i2 j2 w
  have c2 : ∀ w, Calls Tryd.prog 7 #[.agg #[.int .i64 k2, .int .i64 i2, .int .i64 j2], .agg #[.int .i64 k, .int .i64 i, .int .i64 j]] w fun e w' => e = .returned (.bool L') ∧ Kept No w w' := fun w => by rw [← h2]; exact less_is k2 i2 j2 k i j w
  have c3 : ∀ w, Calls Tryd.prog 8 #[.agg #[.int .i64 k, .int .i64 i, .int .i64 j], .agg #[.int .i64 k2, .int .i64 i2, .int .i64 j2]] w fun e w' => e = .returned (.bool L) ∧ Kept No w w' := fun w => by rw [← h1]; exact refless_is k i j k2 i2 j2 w
  have c4 : ∀ w, Calls Tryd.prog 9 #[.agg #[.int .i64 k, .int .i64 i, .int .i64 j]] w fun e w' => e = .returned (.bool b) ∧ Kept No w w' := fun w => by rw [← h3]; exact is_is k i j w
  have C1 := Lib.hid c1
  have C2 := Lib.hid c2
  have C3 := Lib.hid c3
  have C4 := Lib.hid c4
  have H3 := Lib.hid h3
  have HC := Lib.hid hc
  have hbx := (Box.new w #[.int .i64 k, .int .i64 i, .int .i64 j] 23).alloc (.cells #[.int .i64 k2, .int .i64 i2, .int .i64 j2] 23)
  have hby := Box.new (w.alloc (.cells #[.int .i64 k, .int .i64 i, .int .i64 j] 23)) #[.int .i64 k2, .int .i64 i2, .int .i64 j2] 23
  have hk : Kept No w ((w.alloc (.cells #[.int .i64 k, .int .i64 i, .int .i64 j] 23)).alloc (.cells #[.int .i64 k2, .int .i64 i2, .int .i64 j2] 23)) := ((Kept.refl _ _).alloc _).alloc _
  simp only [World.size_alloc] at hby
  have HX := Lib.hid hbx
  have HY := Lib.hid hby
  have HK := Lib.hid hk
  have HT := Lib.hid (hT.kept hk)
  clear hbx hby hk hT c1 c2 c3 c4 h1 h2 h3 hc
  go_enter Tryd.func3, Tryd.ntmps3
  go_wp2_with fail
  refine (alive_is _ HT.out).mono ?_
  rintro e w1 ⟨rfl, k1⟩
  have hx1 := HX.out.kept k1 id
  have hy1 := HY.out.kept k1 id
  have hk1 := HK.out.trans k1 (fun _ _ f => f)
  clear k1 HX HY HK HT
  go_upto_region 3 with fail
  rename_i K hK
  have rest : ∀ u8 u9 u10 u11 u12 u13 u14 u15 u16 u17 u18 u19 u20 u21 u22 u23 u24 u25 u26 u27 u28 u29 u30 u31 u32 u33 u34 u35 : Value, K { tmps := #[.agg #[.int .i64 k, .int .i64 i, .int .i64 j], .agg #[.int .i64 k2, .int .i64 i2, .int .i64 j2], .pointer (some ⟨w.heap.size, 0, none⟩), .pointer (some ⟨w.heap.size + 1, 0, none⟩), .bool false, .bool b, .bool true, .bool false, u8, u9, u10, u11, u12, u13, u14, u15, u16, u17, u18, u19, u20, u21, u22, u23, u24, u25, u26, u27, u28, u29, u30, u31, u32, u33, u34, u35, undef, undef, undef, undef, undef, undef, undef, undef, undef, undef, undef, undef, undef, undef, undef, undef, undef, undef, undef, undef, undef, undef, undef, undef, undef, undef, undef], defers := [] } w1 := by
    intros
    refine hK _ _ ?_
    dsimp only
    clear hK
    obtain ⟨c0, c1, c2⟩ := KW.box3 hx1
    obtain ⟨d0, d1, d2⟩ := KW.box3 hy1
    clear H3 hx1 hy1
    rcases HC.out with ⟨rfl, rfl, rfl, rfl, rfl⟩ | ⟨hne, rfl⟩ | ⟨rfl, hne, rfl⟩ | ⟨rfl, rfl, hne, rfl⟩
    case' inr.inl => cases L
    case' inr.inr.inl => cases L
    case' inr.inr.inr => cases L
    all_goals
      clear HC
      try simp only [Bool.not_true, Bool.not_false] at C2
      go_upto_region 4 with fail
      refine wp_region_calm (by kernel_rfl) (by kernel_rfl) ?_
      repeat (go_big_quiet_step (first | (go_at_call 7; with_reducible exact calls_of _ (C1.out _)) | (go_at_call 7; with_reducible exact calls_of _ (C2.out _)) | (go_at_call 8; with_reducible exact calls_of _ (C3.out _)) | (go_at_call 9; with_reducible exact calls_of _ (C4.out _))))
      refine wpQuiet_nil ?_
      rintro _ ⟨p, rfl⟩
      go_wp2_with fail
      go_ret
      exact ⟨rfl, (hk1.trans p.h (fun _ _ f => f)).below (Nat.le_refl _) (fun _ _ => id)⟩
  clear hK
  have c0 : w1.cell? ⟨w.heap.size, 0, none⟩ = some (.int .i64 k) := hx1.cell 0
  have c1 : w1.cell? ⟨w.heap.size, 1, none⟩ = some (.int .i64 i) := hx1.cell 1
  have c2 : w1.cell? ⟨w.heap.size, 2, none⟩ = some (.int .i64 j) := hx1.cell 2
  have h3 := H3.out
  unfold isKey at h3
  clear H3 C1 C2 C3 C4 HC hx1 hy1 hk1
  have HR := Lib.hid rest
  clear rest
  by_cases k1 : 1 ≤ k
  · by_cases k2 : k ≤ 6
    · by_cases k3 : 0 ≤ i
      · by_cases k4 : i < 4
        · by_cases k5 : 0 ≤ j
          · by_cases k6 : j < 16
            · obtain rfl : true = b := by rw [← h3]; symm; rw [decide_eq_true_eq]; omega
              clear h3
              go_wp2_with fail
              exact HR.out _ _ _ _ _ _ _ _ _ _ _ _ _ _ _ _ _ _ _ _ _ _ _ _ _ _ _ _
            · obtain rfl : false = b := by rw [← h3]; symm; rw [decide_eq_false_iff_not]; omega
              clear h3
              go_wp2_with fail
              exact HR.out _ _ _ _ _ _ _ _ _ _ _ _ _ _ _ _ _ _ _ _ _ _ _ _ _ _ _ _
          · obtain rfl : false = b := by rw [← h3]; symm; rw [decide_eq_false_iff_not]; omega
            clear h3
            go_wp2_with fail
            exact HR.out _ _ _ _ _ _ _ _ _ _ _ _ _ _ _ _ _ _ _ _ _ _ _ _ _ _ _ _
        · obtain rfl : false = b := by rw [← h3]; symm; rw [decide_eq_false_iff_not]; omega
          clear h3
          go_wp2_with fail
          exact HR.out _ _ _ _ _ _ _ _ _ _ _ _ _ _ _ _ _ _ _ _ _ _ _ _ _ _ _ _
      · obtain rfl : false = b := by rw [← h3]; symm; rw [decide_eq_false_iff_not]; omega
        clear h3
        go_wp2_with fail
        exact HR.out _ _ _ _ _ _ _ _ _ _ _ _ _ _ _ _ _ _ _ _ _ _ _ _ _ _ _ _
    · obtain rfl : false = b := by rw [← h3]; symm; rw [decide_eq_false_iff_not]; omega
      clear h3
      go_wp2_with fail
      exact HR.out _ _ _ _ _ _ _ _ _ _ _ _ _ _ _ _ _ _ _ _ _ _ _ _ _ _ _ _
  · obtain rfl : false = b := by rw [← h3]; symm; rw [decide_eq_false_iff_not]; omega
    clear h3
    go_wp2_with fail
    exact HR.out _ _ _ _ _ _ _ _ _ _ _ _ _ _ _ _ _ _ _ _ _ _ _ _ _ _ _ _

theorem walk3 (w : World) (hT : Door.Tabs w) (k i j k2 i2 j2 : Int) :
    Calls Tryd.prog 3 #[.agg #[.int .i64 k, .int .i64 i, .int .i64 j], .agg #[.int .i64 k2, .int .i64 i2, .int .i64 j2]] w fun e w' => e = .returned (.bool true) ∧ Below w.heap.size w w' := by
  refine body w hT k i j k2 i2 j2 _ _ _ rfl rfl rfl ?_
  by_cases h : k = k2 ∧ i = i2 ∧ j = j2
  · obtain ⟨rfl, rfl, rfl⟩ := h
    exact .inl ⟨rfl, rfl, rfl, by simp [lessB], by simp [lessB]⟩
  · have hs := swap_less k i j k2 i2 j2 h
    by_cases h1 : k = k2
    · by_cases h2 : i = i2
      · exact .inr (.inr (.inr ⟨h1, h2, fun h3 => h ⟨h1, h2, h3⟩, hs⟩))
      · exact .inr (.inr (.inl ⟨h1, h2, hs⟩))
    · exact .inr (.inl ⟨h1, hs⟩)

theorem walk (w : World) (hT : Door.Tabs w) (xs : List Int) (hl : xs.length = Tryd.prog.cellsOf 23) (wf : ∀ z ∈ xs, (Lit.int .i64 z).wf = true) (ys : List Int) (hl2 : ys.length = Tryd.prog.cellsOf 23) (wf2 : ∀ z ∈ ys, (Lit.int .i64 z).wf = true) :
    Calls Tryd.prog 3 #[.agg (vals xs).toArray, .agg (vals ys).toArray] w fun e w' => e = .returned (.bool true) ∧ Below w.heap.size w w' := by
  have h3 : xs.length = 3 := hl.trans (by kernel_rfl)
  have h4 : ys.length = 3 := hl2.trans (by kernel_rfl)
  match xs, h3, ys, h4 with
  | [k, i, j], _, [k2, i2, j2], _ => exact walk3 w hT k i j k2 i2 j2

section
open Go.ChangeShapes Go.WideShapes Go.ChangeAt Go.ChangeMaps Go.RowKit Go.Proofs.YtnggbfdnlmkklaaDoor.Own Go.Proofs.YtnggbfdnlmkklaaDoor.Open Go.Proofs.YtnggbfdnlmkklaaDoor.Door

theorem own : ownKnob Tryd.prog.godebug = none := by kernel_rfl
theorem laidOut : laidOutB Tryd.prog = true := by kernel_rfl

theorem door_met (os : Os) (args : Array Value) : laidMetH Tryd.prog Rows.keysOrderRow.laid ((World.laidAll Tryd.prog os Rows.keysOrderRow.laid).forCall (fun _ _ => 0) ⟨#[], args, []⟩).memory := by
  rw [MakeChecks.laidMetH_plain _ _ _ (by kernel_rfl)]
  exact laidMet_laidAll _ (by kernel_rfl) (by kernel_rfl)

set_option maxRecDepth 100000 in
theorem lifted (os : Os) (started : os.Started) (H : Type) (enc : TypeId × Value → H) :
    ReturnsInHanded {} Tryd.checked os 3 .any (fun w args => (Rows.keysOrderSpec.pre enc Tryd.prog Tryd.f3 [] false w args ∧ laidMetH Tryd.prog Rows.keysOrderRow.laid w) ∧ sizedMet enc Tryd.prog Tryd.f3 (OpenSpec.ofChange Rows.keysOrderSpec) false w args) (Rows.keysOrderSpec.post enc Tryd.prog Tryd.f3 false true false false) := by
  refine returnsInHanded_of_change_and (C := Tryd.checked) (X := fun w _ => laidMetH Tryd.prog Rows.keysOrderRow.laid w) (fun _ _ _ hh h => h.of_heap hh) own started (by kernel_rfl) Tryd.func3
    (ChangeSpec.witness_shaped (enc := enc) (C := Tryd.checked) (os := os) (X := fun w _ => laidMetH Tryd.prog Rows.keysOrderRow.laid w) false (World.laidAll Tryd.prog os Rows.keysOrderRow.laid) #[.agg #[.int .i64 0, .int .i64 0, .int .i64 0], .agg #[.int .i64 0, .int .i64 0, .int .i64 0]] 8 (World.laidAll_os _ _ _) (World.shaped_of_ZipB (by kernel_rfl) (by kernel_rfl)) (by kernel_rfl) (by kernel_rfl) (by kernel_rfl) (door_met os _)) ?_
  intro W base args ds gs before hval0 hW _ _ hL _
  have hval : ∀ (j : Nat) t v, Tryd.f3.params[j]? = some t → args[j]? = some v → Value.okWide Tryd.prog W .any base t v := hval0
  have hW' := hW
  obtain ⟨p, q, hA0, hV, rfl, hfz, hnd⟩ := hW
  have hA : DataW.TrodAll enc Tryd.prog W 0 (fun _ => true) true Tryd.f3.params.toList args.toList ds p := hA0
  rw [Tryd.params3] at hA hval
  have hA1 := hA
  obtain ⟨v0, vs0, d0, ds0, p0, q0, hargs, rfl, rfl, h0, r0⟩ := trodAll_cons hA
  obtain ⟨v1, vs1, d1, ds1, p1, q1, rfl, rfl, rfl, h1, r1⟩ := trodAll_cons r0
  obtain ⟨rfl, rfl, rfl⟩ := trodAll_nil r1
  obtain rfl : args = #[v0, v1] := by cases args; simp_all
  obtain ⟨rfl, rfl⟩ := trodVars_none hV
  obtain ⟨z0, rfl, l0, wf0⟩ := open_agg_i64 Tryd.underlying23 (by kernel_rfl) (hval 0 23 v0 rfl rfl) h0
  obtain ⟨z1, rfl, l1, wf1⟩ := open_agg_i64 Tryd.underlying23 (by kernel_rfl) (hval 1 23 v1 rfl rfl) h1
  clear hA0 hval0
  simp only [List.append_nil] at hW' hA1
  refine (walk W (tabs_of hL) z0 l0 wf0 z1 l1 wf1).mono fun e W' ⟨he, hb⟩ => ?_
  subst he
  exact ⟨_, rfl, ⟨_, _, _, [], _, [], hW', trodAll_mk1 (shut_bool Tryd.underlying4 _), below_args laidOut hb (by kernel_rfl) hA1 (fun x hx => by simpa using hW'.lt x hx), rfl, hb.frame _, fun h => by cases h⟩⟩

theorem said : Rows.KeysOrderSaid :=
  OpenClaim.holds_of_wide 3 Tryd.f3 rfl rfl rfl rfl rfl rfl rfl ⟨rfl, rfl, rfl, rfl, rfl⟩ rfl rfl rfl rfl rfl (by kernel_rfl) Tryd.func3 (by kernel_rfl)
    (of_decide_eq_true (by kernel_rfl)) (by unfold Func.isWrapper; first | (rw [if_pos (by decide +kernel)]; kernel_rfl) | (rw [if_neg (by decide +kernel)]; exact ⟨rfl, rfl⟩))
    (fun os started H enc _ => lifted os started H enc)

theorem proved : Rows.KeysOrderCardSaid :=
  Claim7.holds_tied_plain_at .later [] [.data, .data, .data, .data, .sentinel, .sentinel, .pinned] true Rows.keysOrderCard.stood.harness true
    said (fun _ h => by cases h) (by kernel_rfl) (fun _ h => by cases h) keysOrder_row_tie rfl ⟨rfl, rfl⟩ (by kernel_rfl) rfl
    (fun f fn hf hfn => by
      obtain rfl : f = 3 := Option.some.inj ((show Tryd.prog.funcNamed "warrener/warrenerlaw32.KeysOrder" = some 3 by kernel_rfl).symm.trans hf) |>.symm
      obtain rfl : fn = Tryd.f3 := (Option.some.inj (Tryd.func3.symm.trans hfn)).symm
      exact ⟨by kernel_rfl, fun j t ht => by
        have hm : t ∈ Tryd.f3.params := Array.mem_of_getElem? ht
        have hall : (Tryd.f3.params.all fun u => !Tryd.prog.wantsStandIn u) = true := by kernel_rfl
        have := Array.all_eq_true_iff_forall_mem.1 hall t hm
        exact (show Tryd.prog.wantsStandIn t = false by simpa using this)⟩)
    (by kernel_rfl)
end
end Go.Proofs.YtnggbfdnlmkklaaDoor.keysOrder
