/-
  ConfGets answers true, whatever the octets are. Condition: the seven variables that the row lists lie as their initialisers lay them.
-/
import Derived.Test.YtknpjhmgkogmaaaDoorConf12
import Derived.Test.YtknpjhmgkogmaaaDoorConf13
import Derived.Test.YtknpjhmgkogmaaaDoorConf8
import Derived.Test.YtknpjhmgkogmaaaDoorConf10
import Derived.Test.YtknpjhmgkogmaaaDoorOpen
import Derived.BigQuiet
import Derived.Lay
import Derived.MakeChecks
import Derived.Test.YtknpjhmgkogmaaaDoorDoor
import Derived.Test.YtknpjhmgkogmaaaDoorOpen
import Derived.Test.YtknpjhmgkogmaaaDoorCards
import Derived.Test.YtknpjhmgkogmaaaDoorTie
set_option linter.unusedVariables false
namespace Go.Proofs.YtknpjhmgkogmaaaDoor.confGets
open Go.RowKit Go.Sort Go.Proofs.YtknpjhmgkogmaaaDoor.Own Go.Proofs.YtknpjhmgkogmaaaDoor.Conv Go.Proofs.YtknpjhmgkogmaaaDoor.Line Go.Proofs.YtknpjhmgkogmaaaDoor.Calm Go.Proofs.YtknpjhmgkogmaaaDoor.Oct

theorem cut_rd {w : World} {g o n c : Nat} {b : List Int} (h : Rd w 1 (.slice (some ⟨g, o, none⟩) n c) n (bv b)) (m : Nat) (hm : m ≤ n) (h0 : 0 < m) : Rd w 1 (.slice (some ⟨g, o, none⟩) m c) m (bv (b.take m)) := by
  obtain ⟨hl, a, c', he, hc, hx, hnn, hR⟩ := h
  cases he
  obtain ⟨g', o', e2, hg, hcell⟩ := hR (by omega)
  cases e2
  rw [bv_len, Nat.mul_one] at hl
  refine ⟨by rw [bv_len, List.length_take]; omega, _, c, rfl, by omega, hx, (fun h => by cases h), fun _ => ⟨g, o, rfl, hg, fun j u hu => hcell j u ?_⟩⟩
  simp only [bv, List.map_take, List.getElem?_take] at hu
  split at hu
  · exact hu
  · cases hu

set_option maxRecDepth 100000 in
set_option maxHeartbeats 8000000 in
theorem body (w : World) (hT : Door.Tabs w) (u0 : Value) (n0 : Nat) (b0 : List Int) (hoc0 : Octs b0) (h0 : Rd w 1 u0 n0 (bv b0)) :
    Calls Tryd.prog 5 #[u0] w fun e w' => e = .returned (.bool true) ∧ Below w.heap.size w w' := by
  obtain ⟨a0, c0, rfl⟩ : ∃ a c, u0 = .slice a n0 c := by obtain ⟨_, a, c, h, _⟩ := h0; exact ⟨a, c, h⟩
  have hn0 : n0 ≤ c0 ∧ c0 ≤ maxLen := by
    obtain ⟨_, a, c, h, h1, h2, _⟩ := h0
    cases h
    exact ⟨h1, h2⟩
  unfold maxLen at hn0
  have b1 : n0 ≤ c0 := hn0.1
  have b2 : c0 ≤ 9223372036854775807 := by omega
  by_cases h30 : 30 < n0
  case' pos =>
    obtain ⟨g, o, rfl⟩ : ∃ g o, a0 = some ⟨g, o, none⟩ := by
      obtain ⟨_, a, c, h, _, _, _, hR⟩ := h0
      cases h
      obtain ⟨g, o, e, _⟩ := hR (by omega)
      exact ⟨g, o, e⟩
    have hrd := cut_rd h0 30 (by omega) (by omega)
    have hob : Octs (b0.take 30) := fun c hc => hoc0 c (List.mem_of_mem_take hc)
    obtain ⟨b, hb⟩ : ∃ b, b0.take 30 = b := ⟨_, rfl⟩
    rw [hb] at hrd hob
    have bc : (30 : Int) ≤ (c0 : Int) := by omega
    clear hb
  case' neg =>
    have hrd := h0
    have hob := hoc0
    obtain ⟨b, hb⟩ : ∃ b, b0 = b := ⟨_, rfl⟩
    rw [hb] at hrd hob
    clear hb
    have hml : n0 ≤ 30 := by omega
  all_goals
    have HRD := Lib.hid hrd
    have HOB := Lib.hid hob
    have HT := Lib.hid hT
    clear hrd hob h0 hoc0 hT hn0
    go_enter Tryd.func5, Tryd.ntmps5
    go_wp2_with fail
    refine (alive_is w HT.out).mono ?_
    rintro e w1 ⟨rfl, k1⟩
    have hr1 := HRD.out.kept k1 (fun _ _ f => f)
    go_wp2_with fail
    refine (get_is w1 _ _ _ HOB.out hr1 (by omega)).mono ?_
    rintro e w2 ⟨k2, hor⟩
    have hk2 := k1.trans k2 (fun _ _ f => f)
    have hr2 := hr1.kept k2 (fun _ _ f => f)
    clear hr1 k1 k2 HRD
    rcases hor with ⟨hne, rfl⟩ | ⟨⟨hw, hl10, hok, h9⟩, rfl⟩
    · unfold cfg0 ask0
      go_upto_region 6 with fail
      have hx := (Box.new w2 cfg0 23).alloc (.cells ask0 25)
      have hy := Box.new (w2.alloc (.cells cfg0 23)) ask0 25
      have hk := (hk2.alloc (.cells cfg0 23)).alloc (.cells ask0 25)
      have hr := hr2.kept (((Kept.refl No w2).alloc (.cells cfg0 23)).alloc (.cells ask0 25)) (fun _ _ f => f)
      simp only [World.size_alloc] at hy
      unfold cfg0 ask0 at hx hy hk hr
      generalize (w2.alloc _).alloc _ = w3 at *
      generalize w2.heap.size = bx at *
      have HWR := Lib.hid (wrong_is w3 _ _ b HOB.out hr)
      obtain ⟨i, hi⟩ : ∃ i, (getW b).1 = i := ⟨_, rfl⟩
      obtain ⟨z, hz⟩ : ∃ z, (getW b).2 = z := ⟨_, rfl⟩
      rw [hi, hz] at HWR ⊢
      rw [hz] at hne
      have hzb : (z != 0) = true := by simpa using hne
      clear hi hz hr2 hk2 hr
      go_wp2_with fail
      refine HWR.out.mono ?_
      rintro e w4 ⟨rfl, k4⟩
      have hx4 := hx.kept k4 id
      have hy4 := hy.kept k4 id
      have hk4 := hk.trans k4 (fun _ _ f => f)
      clear hx hy hk k4 HWR
      obtain ⟨c0, c1, c2, c3, c4⟩ := cells5 hx4
      obtain ⟨d0, d1, d2⟩ := cells3 hy4
      go_wp2_with fail
      go_ret
      exact ⟨rfl, hk4.below (Nat.le_refl _) (fun _ _ => id)⟩
    · have hpg := put_got HOB.out hl10 hok h9
      rw [Bool.and_eq_true] at hok
      have hPut := fun w => confput_yes _ _ _ _ _ _ _ (b.getD 9 0 == 1) hok.1 hok.2 w
      rw [hpg] at hPut
      obtain ⟨sb, hsb⟩ : ∃ q, (b.getD 9 0 == 1) = q := ⟨_, rfl⟩
      rw [hsb] at hPut ⊢
      clear hsb
      have HPut := Lib.hid hPut
      have HW := Lib.hid hw
      obtain ⟨s1, hs1⟩ : ∃ s : ByteArray, (⟨(u8s b).toArray⟩ : ByteArray) = s := ⟨_, rfl⟩
      have HCV : Hid (∀ (w : World) (v : Value) (n : Nat), Rd w 1 v n (bv b) → (convert 29 9 v).run Tryd.prog w = .ok (.string s1) w) := Lib.hid (fun w v n hs => by
        rw [← hs1]
        refine conv_string w _ _ 5 v n _ Tryd.underlying29 Tryd.underlying5 Tryd.underlying9 ?_
        rw [u8s_cells _ HOB.out]
        exact hs)
      clear hpg hPut hw hl10 hok h9 hs1
      go_upto_region 6 with fail
      have hx := (Box.new w2 #[.int .i64 (gV b 0), .int .i64 (gV b 1), .int .i64 (gV b 2), .int .i64 (gV b 3), .int .i64 (gV b 4)] 23).alloc (.cells #[.int .i64 (gV b 5), .int .i64 (gV b 6), .bool sb] 25)
      have hy := Box.new (w2.alloc (.cells #[.int .i64 (gV b 0), .int .i64 (gV b 1), .int .i64 (gV b 2), .int .i64 (gV b 3), .int .i64 (gV b 4)] 23)) #[.int .i64 (gV b 5), .int .i64 (gV b 6), .bool sb] 25
      have hk := (hk2.alloc (.cells #[.int .i64 (gV b 0), .int .i64 (gV b 1), .int .i64 (gV b 2), .int .i64 (gV b 3), .int .i64 (gV b 4)] 23)).alloc (.cells #[.int .i64 (gV b 5), .int .i64 (gV b 6), .bool sb] 25)
      have hr := hr2.kept (((Kept.refl No w2).alloc (.cells #[.int .i64 (gV b 0), .int .i64 (gV b 1), .int .i64 (gV b 2), .int .i64 (gV b 3), .int .i64 (gV b 4)] 23)).alloc (.cells #[.int .i64 (gV b 5), .int .i64 (gV b 6), .bool sb] 25)) (fun _ _ f => f)
      simp only [World.size_alloc] at hy
      generalize (w2.alloc _).alloc _ = w3 at *
      generalize w2.heap.size = bx at *
      have HWR := Lib.hid (wrong_is w3 _ _ b HOB.out hr)
      rw [HW.out] at HWR
      clear hr2 hk2
      go_wp2_with fail
      refine HWR.out.mono ?_
      rintro e w4 ⟨rfl, k4⟩
      have hx4 := hx.kept k4 id
      have hy4 := hy.kept k4 id
      have hr4 := hr.kept k4 (fun _ _ f => f)
      have hk4 := hk.trans k4 (fun _ _ f => f)
      clear hx hy hk hr k4 HWR
      obtain ⟨c0, c1, c2, c3, c4⟩ := cells5 hx4
      obtain ⟨d0, d1, d2⟩ := cells3 hy4
      go_wp2_with fail
      refine (HPut.out w4).mono ?_
      rintro e w5 ⟨vb, nb, rfl, hs5, k5⟩
      have hr5 := hr4.kept k5 (fun _ _ f => f)
      have hk5 := hk4.trans k5 (fun _ _ f => f)
      have v1 := HCV.out w5 _ _ hs5.rd
      have v2 := HCV.out w5 _ _ hr5
      clear c0 c1 c2 c3 c4 d0 d1 d2
      go_wp2_with fail
      go_ret
      exact ⟨rfl, hk5.below (Nat.le_refl _) (fun _ _ => id)⟩

theorem walk (w : World) (hT : Door.Tabs w) (v : Value) (n : Nat) (xs : List Int) (h : Rd w 1 v n (xs.map (Value.int .u8))) (wf : ∀ z ∈ xs, (Lit.int .u8 z).wf = true) :
    Calls Tryd.prog 5 #[v] w fun e w' => e = .returned (.bool true) ∧ Below w.heap.size w w' :=
  body w hT v n xs (fun c hc => Open.wf_u8_bd (wf c hc)) h

section
open Go.ChangeShapes Go.WideShapes Go.ChangeAt Go.ChangeMaps Go.RowKit Go.Proofs.YtknpjhmgkogmaaaDoor.Own Go.Proofs.YtknpjhmgkogmaaaDoor.Open Go.Proofs.YtknpjhmgkogmaaaDoor.Door

theorem own : ownKnob Tryd.prog.godebug = none := by kernel_rfl
theorem laidOut : laidOutB Tryd.prog = true := by kernel_rfl

theorem door_met (os : Os) (args : Array Value) : laidMetH Tryd.prog Rows.confGetsRow.laid ((World.laidAll Tryd.prog os Rows.confGetsRow.laid).forCall (fun _ _ => 0) ⟨#[], args, []⟩).memory := by
  rw [MakeChecks.laidMetH_plain _ _ _ (by kernel_rfl)]
  exact laidMet_laidAll _ (by kernel_rfl) (by kernel_rfl)

set_option maxRecDepth 100000 in
theorem lifted (os : Os) (started : os.Started) (H : Type) (enc : TypeId × Value → H) :
    ReturnsInHanded {} Tryd.checked os 5 .any (fun w args => (Rows.confGetsSpec.pre enc Tryd.prog Tryd.f5 [] false w args ∧ laidMetH Tryd.prog Rows.confGetsRow.laid w) ∧ sizedMet enc Tryd.prog Tryd.f5 (OpenSpec.ofChange Rows.confGetsSpec) false w args) (Rows.confGetsSpec.post enc Tryd.prog Tryd.f5 false true false false) := by
  refine returnsInHanded_of_change_and (C := Tryd.checked) (X := fun w _ => laidMetH Tryd.prog Rows.confGetsRow.laid w) (fun _ _ _ hh h => h.of_heap hh) own started (by kernel_rfl) Tryd.func5
    (ChangeSpec.witness_shaped (enc := enc) (C := Tryd.checked) (os := os) (X := fun w _ => laidMetH Tryd.prog Rows.confGetsRow.laid w) false (World.laidAll Tryd.prog os Rows.confGetsRow.laid) #[.slice none 0 0] 8 (World.laidAll_os _ _ _) (World.shaped_of_ZipB (by kernel_rfl) (by kernel_rfl)) (by kernel_rfl) (by kernel_rfl) (by kernel_rfl) (door_met os _)) ?_
  intro W base args ds gs before hval0 hW _ _ hL _
  have hval : ∀ (j : Nat) t v, Tryd.f5.params[j]? = some t → args[j]? = some v → Value.okWide Tryd.prog W .any base t v := hval0
  have hW' := hW
  obtain ⟨p, q, hA0, hV, rfl, hfz, hnd⟩ := hW
  have hA : DataW.TrodAll enc Tryd.prog W 0 (fun _ => true) true Tryd.f5.params.toList args.toList ds p := hA0
  rw [Tryd.params5] at hA hval
  have hA1 := hA
  obtain ⟨v0, vs0, d0, ds0, p0, q0, hargs, rfl, rfl, h0, r0⟩ := trodAll_cons hA
  obtain ⟨rfl, rfl, rfl⟩ := trodAll_nil r0
  obtain rfl : args = #[v0] := by cases args; simp_all
  obtain ⟨rfl, rfl⟩ := trodVars_none hV
  obtain ⟨n0, z0, rd0, wf0⟩ := open_kinds Tryd.underlying29 Tryd.underlying5 (by kernel_rfl) (hval 0 29 v0 rfl rfl) h0
  clear hA0 hval0
  simp only [List.append_nil] at hW' hA1
  refine (walk W (tabs_of hL) v0 n0 z0 rd0 wf0).mono fun e W' ⟨he, hb⟩ => ?_
  subst he
  exact ⟨_, rfl, ⟨_, _, _, [], _, [], hW', trodAll_mk1 (shut_bool Tryd.underlying4 _), below_args laidOut hb (by kernel_rfl) hA1 (fun x hx => by simpa using hW'.lt x hx), rfl, hb.frame _, fun h => by cases h⟩⟩

theorem said : Rows.ConfGetsSaid :=
  OpenClaim.holds_of_wide 5 Tryd.f5 rfl rfl rfl rfl rfl rfl rfl ⟨rfl, rfl, rfl, rfl, rfl⟩ rfl rfl rfl rfl rfl (by kernel_rfl) Tryd.func5 (by kernel_rfl)
    (of_decide_eq_true (by kernel_rfl)) (by unfold Func.isWrapper; first | (rw [if_pos (by decide +kernel)]; kernel_rfl) | (rw [if_neg (by decide +kernel)]; exact ⟨rfl, rfl⟩))
    (fun os started H enc _ => lifted os started H enc)

theorem proved : Rows.ConfGetsCardSaid :=
  Claim7.holds_tied_plain_at .later [] [.data, .data, .data, .data, .sentinel, .sentinel, .pinned] true Rows.confGetsCard.stood.harness true
    said (fun _ h => by cases h) (by kernel_rfl) (fun _ h => by cases h) confGets_row_tie rfl ⟨rfl, rfl⟩ (by kernel_rfl) rfl
    (fun f fn hf hfn => by
      obtain rfl : f = 5 := Option.some.inj ((show Tryd.prog.funcNamed "warrener/warrenerlaw14.ConfGets" = some 5 by kernel_rfl).symm.trans hf) |>.symm
      obtain rfl : fn = Tryd.f5 := (Option.some.inj (Tryd.func5.symm.trans hfn)).symm
      exact ⟨by kernel_rfl, fun j t ht => by
        have hm : t ∈ Tryd.f5.params := Array.mem_of_getElem? ht
        have hall : (Tryd.f5.params.all fun u => !Tryd.prog.wantsStandIn u) = true := by kernel_rfl
        have := Array.all_eq_true_iff_forall_mem.1 hall t hm
        exact (show Tryd.prog.wantsStandIn t = false by simpa using this)⟩)
    (by kernel_rfl)
end
end Go.Proofs.YtknpjhmgkogmaaaDoor.confGets
