/-
  PaperGets answers true, whatever the octets are. Condition: the three tables that the row lists lie as their initialisers lay them.
-/
import Derived.Test.YtaffaliplmfagaaDoorPap9
import Derived.Test.YtaffaliplmfagaaDoorPap10
import Derived.Test.YtaffaliplmfagaaDoorPap11
import Derived.Test.YtaffaliplmfagaaDoorPap12
import Derived.Test.YtaffaliplmfagaaDoorOpen
import Derived.BigQuiet
import Derived.Test.YtaffaliplmfagaaDoorDoor
import Derived.Test.YtaffaliplmfagaaDoorOpen
import Derived.Test.YtaffaliplmfagaaDoorCards
import Derived.Test.YtaffaliplmfagaaDoorTie
set_option linter.unusedVariables false
namespace Go.Proofs.YtaffaliplmfagaaDoor.paperGets
open Go.RowKit Go.Sort Go.Proofs.YtaffaliplmfagaaDoor.Own Go.Proofs.YtaffaliplmfagaaDoor.Conv Go.Proofs.YtaffaliplmfagaaDoor.Line Go.Proofs.YtaffaliplmfagaaDoor.Calm Go.Proofs.YtaffaliplmfagaaDoor.Oct

theorem cut_rd {w : World} {g o n c : Nat} {b : List Int} (h : Rd w 1 (.slice (some ⟨g, o, none⟩) n c) n (bv b)) (m : Nat) (hm : m ≤ n) (h0 : 0 < m) : Rd w 1 (.slice (some ⟨g, o, none⟩) m c) m (bv (b.take m)) := by
  obtain ⟨hl, a, c', he, hc, hx, hnn, hR⟩ := h
  cases he
  obtain ⟨g', o', e2, hg, hcell⟩ := hR (by omega)
  cases e2
  rw [bv_len, Nat.mul_one] at hl
  refine ⟨by rw [bv_len, List.length_take]; omega, _, c, rfl, by omega, hx, (fun h => by cases h), fun _ => ⟨g, o, rfl, hg, fun j u hu => hcell j u ?_⟩⟩
  simp only [bv, List.map_take, List.getElem?_take] at hu
  split at hu
  · exact hu
  · cases hu
theorem cells3 {w : World} {b : Nat} {x y z : Value} {t : TypeId} (h : Box w b #[x, y, z] t) : w.cell? ⟨b, 0, none⟩ = some x ∧ w.cell? ⟨b, 1, none⟩ = some y ∧ w.cell? ⟨b, 2, none⟩ = some z := ⟨h.cell 0, h.cell 1, h.cell 2⟩

set_option maxRecDepth 100000 in
set_option maxHeartbeats 8000000 in
theorem body0 (w : World) (hT : Door.Tabs w) (a0 : Option Addr) (c0 : Nat) :
    Calls Tryd.prog 4 #[.slice a0 0 c0] w fun e w' => e = .returned (.bool true) ∧ Below w.heap.size w w' := by
  go_enter Tryd.func4, Tryd.ntmps4
  go_wp2_with fail
  refine (alive_is w hT).mono ?_
  rintro e w1 ⟨rfl, k1⟩
  go_wp2_with fail
  refine (get_nil _ _ w1).mono ?_
  rintro e w2 ⟨rfl, k2⟩
  have hk2 := k1.trans k2 (fun _ _ f => f)
  clear k1 k2 hT
  go_upto_region 6 with fail
  have hx := Box.new w2 #[.int .i64 0, .int .i64 0, .slice none 0 0] 24
  have hk := hk2.alloc (.cells #[.int .i64 0, .int .i64 0, .slice none 0 0] 24)
  generalize w2.alloc _ = w3 at *
  generalize w2.heap.size = bx at *
  clear hk2
  go_wp2_with fail
  refine (wrong_nil _ _ w3).mono ?_
  rintro e w4 ⟨rfl, k4⟩
  have hx4 := hx.kept k4 id
  have hk4 := hk.trans k4 (fun _ _ f => f)
  clear hx hk k4
  obtain ⟨d0, d1, d2⟩ := cells3 hx4
  go_wp2_with fail
  refine (report_same w4 0 0 _ _ [] [] (FR.nil w4) (FR.nil w4) rfl).mono ?_
  rintro e w5 ⟨rfl, k5⟩
  have hk5 := hk4.trans k5 (fun _ _ f => f)
  go_wp2_with fail
  go_ret
  exact ⟨rfl, hk5.below (Nat.le_refl _) (fun _ _ => id)⟩

set_option maxRecDepth 100000 in
set_option maxHeartbeats 8000000 in
theorem body (w : World) (hT : Door.Tabs w) (u0 : Value) (n0 : Nat) (b0 : List Int) (hoc0 : Octs b0) (h0 : Rd w 1 u0 n0 (bv b0)) :
    Calls Tryd.prog 4 #[u0] w fun e w' => e = .returned (.bool true) ∧ Below w.heap.size w w' := by
  obtain ⟨a0, c0, rfl⟩ : ∃ a c, u0 = .slice a n0 c := by obtain ⟨_, a, c, h, _⟩ := h0; exact ⟨a, c, h⟩
  by_cases hz0 : n0 = 0
  · subst hz0
    exact body0 w hT a0 c0
  have hn0 : n0 ≤ c0 ∧ c0 ≤ maxLen := by
    obtain ⟨_, a, c, h, h1, h2, _⟩ := h0
    cases h
    exact ⟨h1, h2⟩
  unfold maxLen at hn0
  have b1 : n0 ≤ c0 := hn0.1
  have b2 : c0 ≤ 9223372036854775807 := by omega
  obtain ⟨g, o, rfl⟩ : ∃ g o, a0 = some ⟨g, o, none⟩ := by
    obtain ⟨_, a, c, h, _, _, _, hR⟩ := h0
    cases h
    obtain ⟨g, o, e, _⟩ := hR (by omega)
    exact ⟨g, o, e⟩
  have hn1 : 1 ≤ n0 := by omega
  clear hz0
  obtain ⟨m, hm⟩ : ∃ m, min n0 400 = m := ⟨_, rfl⟩
  by_cases h30 : 400 < n0
  case' pos =>
    obtain rfl : 400 = m := by omega
    have hrd := cut_rd h0 400 (by omega) (by omega)
    have hob : Octs (b0.take 400) := fun c hc => hoc0 c (List.mem_of_mem_take hc)
    obtain ⟨b, hb⟩ : ∃ b, b0.take 400 = b := ⟨_, rfl⟩
    rw [hb] at hrd hob
    have bc : (400 : Int) ≤ (c0 : Int) := by omega
    have hnn : 1 ≤ 400 := by omega
    have hml : 400 ≤ 400 := by omega
    clear hb
  case' neg =>
    obtain rfl : n0 = m := by omega
    have hrd := h0
    have hob := hoc0
    obtain ⟨b, hb⟩ : ∃ b, b0 = b := ⟨_, rfl⟩
    rw [hb] at hrd hob
    have hnn := hn1
    have hml : n0 ≤ 400 := by omega
    clear hb
  all_goals
    have hlb := hrd.len
    rw [bv_len, Nat.mul_one] at hlb
    have HLB := Lib.hid hlb
    have HRD := Lib.hid hrd
    have HOB := Lib.hid hob
    have HT := Lib.hid hT
    clear hrd hob h0 hoc0 hT hn0 hm hlb
    go_enter Tryd.func4, Tryd.ntmps4
    go_wp2_with fail
    refine (alive_is w HT.out).mono ?_
    rintro e w1 ⟨rfl, k1⟩
    have hr1 := HRD.out.kept k1 (fun _ _ f => f)
    go_wp2_with fail
    refine (paperget_is g o _ _ b w1 hr1 HOB.out hnn (by omega)).mono ?_
    rintro e w2 ⟨k2, hor⟩
    have hk2 := k1.trans k2 (fun _ _ f => f)
    have hr2 := hr1.kept k2 (fun _ _ f => f)
    clear hr1 k1 k2 HRD
    rcases hor with ⟨hne, rfl⟩ | ⟨hw0, hw1, fs, hfs, ⟨hok, rfl⟩ | ⟨hok, ao, cap, rfl, hfr⟩⟩
    · go_upto_region 6 with fail
      have hx := Box.new w2 #[.int .i64 0, .int .i64 0, .slice none 0 0] 24
      have hk := hk2.alloc (.cells #[.int .i64 0, .int .i64 0, .slice none 0 0] 24)
      have hr := hr2.kept ((Kept.refl No w2).alloc (.cells #[.int .i64 0, .int .i64 0, .slice none 0 0] 24)) (fun _ _ f => f)
      generalize w2.alloc _ = w3 at *
      generalize w2.heap.size = bx at *
      have HWR := Lib.hid (wrong_is g o _ _ b w3 hr HOB.out hnn (by omega))
      obtain ⟨i, hi⟩ : ∃ i, (wrongP b).1 = i := ⟨_, rfl⟩
      obtain ⟨z, hz⟩ : ∃ z, (wrongP b).2 = z := ⟨_, rfl⟩
      rw [hi, hz] at HWR ⊢
      rw [hz] at hne
      have hzb : (z != 0) = true := by simpa using hne
      clear hi hz hr2 hk2 hr
      go_wp2_with fail
      refine HWR.out.mono ?_
      rintro e w4 ⟨rfl, k4⟩
      have hx4 := hx.kept k4 id
      have hk4 := hk.trans k4 (fun _ _ f => f)
      clear hx hk k4 HWR
      obtain ⟨d0, d1, d2⟩ := cells3 hx4
      go_wp2_with fail
      refine (report_same w4 0 0 _ _ [] [] (FR.nil w4) (FR.nil w4) rfl).mono ?_
      rintro e w5 ⟨rfl, k5⟩
      have hk5 := hk4.trans k5 (fun _ _ f => f)
      go_wp2_with fail
      go_ret
      exact ⟨rfl, hk5.below (Nat.le_refl _) (fun _ _ => id)⟩
    · go_upto_region 6 with fail
      have hx := Box.new w2 #[.int .i64 0, .int .i64 0, .slice none 0 0] 24
      have hk := hk2.alloc (.cells #[.int .i64 0, .int .i64 0, .slice none 0 0] 24)
      have hr := hr2.kept ((Kept.refl No w2).alloc (.cells #[.int .i64 0, .int .i64 0, .slice none 0 0] 24)) (fun _ _ f => f)
      generalize w2.alloc _ = w3 at *
      generalize w2.heap.size = bx at *
      have HWR := Lib.hid (wrong_is g o _ _ b w3 hr HOB.out hnn (by omega))
      rw [hw0] at HWR
      obtain ⟨i, hi⟩ : ∃ i, (wrongP b).1 = i := ⟨_, rfl⟩
      rw [hi] at HWR
      clear hi hw0 hw1 hfs hok hr2 hk2 hr
      go_wp2_with fail
      refine HWR.out.mono ?_
      rintro e w4 ⟨rfl, k4⟩
      have hx4 := hx.kept k4 id
      have hk4 := hk.trans k4 (fun _ _ f => f)
      clear hx hk k4 HWR
      obtain ⟨d0, d1, d2⟩ := cells3 hx4
      go_wp2_with fail
      refine (report_same w4 0 0 _ _ [] [] (FR.nil w4) (FR.nil w4) rfl).mono ?_
      rintro e w5 ⟨rfl, k5⟩
      have hk5 := hk4.trans k5 (fun _ _ f => f)
      go_wp2_with fail
      go_ret
      exact ⟨rfl, hk5.below (Nat.le_refl _) (fun _ _ => id)⟩
    · have hpg := put_got HOB.out hw0 hw1 hfs
      rw [HLB.out]
      rw [HLB.out] at hw1
      have hp : ∀ (w : World), FR w (.slice ao fs.length cap) fs → Calls Tryd.prog 7 #[.agg #[.int .i64 (vdG b), .int .i64 (edG b), .slice ao fs.length cap]] w fun e w' => ∃ v, e = .returned (.tuple #[v, .int .i64 0]) ∧ Rd w' 1 v b.length (bv b) ∧ Kept No w w' := fun w h => by
        refine (paperput_is _ _ _ _ _ _ w h (by rw [hpg, HLB.out]; omega)).mono ?_
        rintro e w' ⟨hk, ⟨h1, _⟩ | ⟨_, v, rfl, hs⟩⟩
        · rw [hok] at h1; cases h1
        · rw [hpg] at hs
          exact ⟨v, rfl, hs.rd, hk⟩
      have HP := Lib.hid hp
      obtain ⟨vd, hvd⟩ : ∃ x, vdG b = x := ⟨_, rfl⟩
      obtain ⟨ed, hed⟩ : ∃ x, edG b = x := ⟨_, rfl⟩
      obtain ⟨q, hq⟩ : ∃ x, fs.length = x := ⟨_, rfl⟩
      rw [hvd, hed, hq] at HP ⊢
      rw [hq] at hfr
      clear hvd hed hq hpg hp hfs hok
      obtain ⟨s1, hs1⟩ : ∃ s : ByteArray, (⟨(u8s b).toArray⟩ : ByteArray) = s := ⟨_, rfl⟩
      have HCV : Hid (∀ (w : World) (v : Value) (n : Nat), Rd w 1 v n (bv b) → (convert 27 9 v).run Tryd.prog w = .ok (.string s1) w) := Lib.hid (fun w v n hs => by
        rw [← hs1]
        refine conv_string w _ _ 5 v n _ Tryd.underlying27 Tryd.underlying5 Tryd.underlying9 ?_
        rw [u8s_cells _ HOB.out]
        exact hs)
      clear hs1
      go_upto_region 6 with fail
      have hx := Box.new w2 #[.int .i64 vd, .int .i64 ed, .slice ao q cap] 24
      have hk := hk2.alloc (.cells #[.int .i64 vd, .int .i64 ed, .slice ao q cap] 24)
      have hk20 := (Kept.refl No w2).alloc (.cells #[.int .i64 vd, .int .i64 ed, .slice ao q cap] 24)
      have hr := hr2.kept hk20 (fun _ _ f => f)
      have hf := hfr.kept hk20
      generalize w2.alloc _ = w3 at *
      generalize w2.heap.size = bx at *
      have HWR := Lib.hid (wrong_is g o _ _ b w3 hr HOB.out hnn (by omega))
      rw [hw0, hw1] at HWR
      clear hw0 hw1 hr2 hk2 hfr hk20
      go_wp2_with fail
      refine HWR.out.mono ?_
      rintro e w4 ⟨rfl, k4⟩
      have hx4 := hx.kept k4 id
      have hr4 := hr.kept k4 (fun _ _ f => f)
      have hk4 := hk.trans k4 (fun _ _ f => f)
      have hf4 := hf.kept k4
      clear hx hk hr hf k4 HWR
      obtain ⟨d0, d1, d2⟩ := cells3 hx4
      go_wp2_with fail
      refine (HP.out w4 hf4).mono ?_
      rintro e w5 ⟨vb, rfl, hs5, k5⟩
      have hr5 := hr4.kept k5 (fun _ _ f => f)
      have hk5 := hk4.trans k5 (fun _ _ f => f)
      have v1 := HCV.out w5 _ _ hs5
      have v2 := HCV.out w5 _ _ hr5
      clear d0 d1 d2 hf4 HP
      go_wp2_with fail
      go_ret
      exact ⟨rfl, hk5.below (Nat.le_refl _) (fun _ _ => id)⟩

theorem walk (w : World) (hT : Door.Tabs w) (v : Value) (n : Nat) (xs : List Int) (h : Rd w 1 v n (xs.map (Value.int .u8))) (wf : ∀ z ∈ xs, (Lit.int .u8 z).wf = true) :
    Calls Tryd.prog 4 #[v] w fun e w' => e = .returned (.bool true) ∧ Below w.heap.size w w' :=
  body w hT v n xs (fun c hc => Open.wf_u8_bd (wf c hc)) h

section
open Go.ChangeShapes Go.WideShapes Go.ChangeAt Go.ChangeMaps Go.RowKit Go.Proofs.YtaffaliplmfagaaDoor.Own Go.Proofs.YtaffaliplmfagaaDoor.Open Go.Proofs.YtaffaliplmfagaaDoor.Door

theorem own : ownKnob Tryd.prog.godebug = none := by kernel_rfl
theorem laidOut : laidOutB Tryd.prog = true := by kernel_rfl

theorem door_met (os : Os) (args : Array Value) : laidMetH Tryd.prog Rows.paperGetsRow.laid ((World.doorLaid Tryd.prog 24 os).forCall (fun _ _ => 0) ⟨#[], args, []⟩).memory :=
  laidMetH_of_parts3 (fuel := 8) (laidMet_of_run' 8 (by kernel_rfl) (by kernel_rfl)) (by kernel_rfl) (by kernel_rfl)

set_option maxRecDepth 100000 in
theorem lifted (os : Os) (started : os.Started) (H : Type) (enc : TypeId × Value → H) :
    ReturnsInHanded {} Tryd.checked os 4 .any (fun w args => (Rows.paperGetsSpec.pre enc Tryd.prog Tryd.f4 [] false w args ∧ laidMetH Tryd.prog Rows.paperGetsRow.laid w) ∧ sizedMet enc Tryd.prog Tryd.f4 (OpenSpec.ofChange Rows.paperGetsSpec) false w args) (Rows.paperGetsSpec.post enc Tryd.prog Tryd.f4 false true false false) := by
  refine returnsInHanded_of_change_and (C := Tryd.checked) (X := fun w _ => laidMetH Tryd.prog Rows.paperGetsRow.laid w) (fun _ _ _ hh h => h.of_heap hh) own started (by kernel_rfl) Tryd.func4
    (ChangeSpec.witness_shaped (enc := enc) (C := Tryd.checked) (os := os) (X := fun w _ => laidMetH Tryd.prog Rows.paperGetsRow.laid w) false (World.doorLaid Tryd.prog 24 os) #[.slice none 0 0] 8 rfl (World.shaped_of_RefB (by kernel_rfl) (by kernel_rfl)) (by kernel_rfl) (by kernel_rfl) (by kernel_rfl) (door_met os _)) ?_
  intro W base args ds gs before hval0 hW _ _ hL _
  have hval : ∀ (j : Nat) t v, Tryd.f4.params[j]? = some t → args[j]? = some v → Value.okWide Tryd.prog W .any base t v := hval0
  have hW' := hW
  obtain ⟨p, q, hA0, hV, rfl, hfz, hnd⟩ := hW
  have hA : DataW.TrodAll enc Tryd.prog W 0 (fun _ => true) true Tryd.f4.params.toList args.toList ds p := hA0
  rw [Tryd.params4] at hA hval
  have hA1 := hA
  obtain ⟨v0, vs0, d0, ds0, p0, q0, hargs, rfl, rfl, h0, r0⟩ := trodAll_cons hA
  obtain ⟨rfl, rfl, rfl⟩ := trodAll_nil r0
  obtain rfl : args = #[v0] := by cases args; simp_all
  obtain ⟨rfl, rfl⟩ := trodVars_none hV
  obtain ⟨n0, z0, rd0, wf0⟩ := open_kinds Tryd.underlying27 Tryd.underlying5 (by kernel_rfl) (hval 0 27 v0 rfl rfl) h0
  clear hA0 hval0
  simp only [List.append_nil] at hW' hA1
  refine (walk W (tabs_of hL) v0 n0 z0 rd0 wf0).mono fun e W' ⟨he, hb⟩ => ?_
  subst he
  exact ⟨_, rfl, ⟨_, _, _, [], _, [], hW', trodAll_mk1 (shut_bool Tryd.underlying4 _), below_args laidOut hb (by kernel_rfl) hA1 (fun x hx => by simpa using hW'.lt x hx), rfl, hb.frame _, fun h => by cases h⟩⟩

theorem said : Rows.PaperGetsSaid :=
  OpenClaim.holds_of_wide 4 Tryd.f4 rfl rfl rfl rfl rfl rfl rfl ⟨rfl, rfl, rfl, rfl, rfl⟩ rfl rfl rfl rfl rfl (by kernel_rfl) Tryd.func4 (by kernel_rfl)
    (of_decide_eq_true (by kernel_rfl)) (by unfold Func.isWrapper; first | (rw [if_pos (by decide +kernel)]; kernel_rfl) | (rw [if_neg (by decide +kernel)]; exact ⟨rfl, rfl⟩))
    (fun os started H enc _ => lifted os started H enc)

theorem proved : Rows.PaperGetsCardSaid :=
  Claim7.holds_tied_plain_at .later [] [.data, .data, .data] true Rows.paperGetsCard.stood.harness true
    said (fun _ h => by cases h) (by kernel_rfl) (fun _ h => by cases h) paperGets_row_tie rfl ⟨rfl, rfl⟩ (by kernel_rfl) rfl
    (fun f fn hf hfn => by
      obtain rfl : f = 4 := Option.some.inj ((show Tryd.prog.funcNamed "warrener/warrenerlaw40.PaperGets" = some 4 by kernel_rfl).symm.trans hf) |>.symm
      obtain rfl : fn = Tryd.f4 := (Option.some.inj (Tryd.func4.symm.trans hfn)).symm
      exact ⟨by kernel_rfl, fun j t ht => by
        have hm : t ∈ Tryd.f4.params := Array.mem_of_getElem? ht
        have hall : (Tryd.f4.params.all fun u => !Tryd.prog.wantsStandIn u) = true := by kernel_rfl
        have := Array.all_eq_true_iff_forall_mem.1 hall t hm
        exact (show Tryd.prog.wantsStandIn t = false by simpa using this)⟩)
    (by kernel_rfl)
end
end Go.Proofs.YtaffaliplmfagaaDoor.paperGets
