/-
  PlaceTexts answers true, whatever the place is. Condition: the three tables that the row lists lie as their initialisers lay them.
-/
import Derived.Test.YtkjhopnhphiiaaaDoorPlaceLive
import Derived.Test.YtkjhopnhphiiaaaDoorOpenRows
import Derived.BigQuiet
import Derived.Deep.DeepCutAuto
import Derived.Deep.CutBlock
import Derived.Test.YtkjhopnhphiiaaaDoorDoor
import Derived.Test.YtkjhopnhphiiaaaDoorOpen
import Derived.Test.YtkjhopnhphiiaaaDoorCards
import Derived.Test.YtkjhopnhphiiaaaDoorTie
set_option linter.unusedVariables false
namespace Go.Proofs.YtkjhopnhphiiaaaDoor.placeTexts
open Go.RowKit Go.Sort Go.Proofs.YtkjhopnhphiiaaaDoor.Own Go.Proofs.YtkjhopnhphiiaaaDoor.Line Go.Proofs.YtkjhopnhphiiaaaDoor.Calm

theorem app_mk (a b : List UInt8) : (⟨a.toArray⟩ : ByteArray) ++ (⟨b.toArray⟩ : ByteArray) = ⟨(a ++ b).toArray⟩ := by
  apply ByteArray.ext
  simp

set_option maxRecDepth 100000 in
set_option maxHeartbeats 8000000 in
theorem walk3 (w : World) (hT : Door.Tabs w) (k i j : Int) (hi : int64 i) (hj : int64 j) :
    Calls Tryd.prog 6 #[.agg #[.int .i64 k, .int .i64 i, .int .i64 j]] w fun e w' => e = .returned (.bool true) ∧ Below w.heap.size w w' := by
  obtain ⟨st, hst⟩ : ∃ s : ByteArray, (⟨(placeT k i j).toArray⟩ : ByteArray) = s := ⟨_, rfl⟩
  obtain ⟨si, hsi⟩ : ∃ s : ByteArray, (⟨(Lib.itoa i).toArray⟩ : ByteArray) = s := ⟨_, rfl⟩
  obtain ⟨sj, hsj⟩ : ∃ s : ByteArray, (⟨(Lib.itoa j).toArray⟩ : ByteArray) = s := ⟨_, rfl⟩
  have zi : si.size ≤ 21 := by rw [← hsi]; have := itoa_len hi; simpa [ByteArray.size] using this
  have zj : sj.size ≤ 21 := by rw [← hsj]; have := itoa_len hj; simpa [ByteArray.size] using this
  have t1 : ∀ w, Door.Tabs w → Calls Tryd.prog 18 #[.agg #[.int .i64 k, .int .i64 i, .int .i64 j]] w fun e w' => e = .returned (.string st) ∧ Kept No w w' := fun w hT => by rw [← hst]; exact text_is k i j hi hj w hT
  have T1 := Lib.hid t1
  have hk : Kept No w (w.alloc (.cells #[.int .i64 k, .int .i64 i, .int .i64 j] 23)) := (Kept.refl _ _).alloc _
  have hbx := Box.new w #[.int .i64 k, .int .i64 i, .int .i64 j] 23
  have HX := Lib.hid hbx
  have HK := Lib.hid hk
  have HT := Lib.hid (hT.kept hk)
  have HST := Lib.hid hst
  have HSI := Lib.hid hsi
  have HSJ := Lib.hid hsj
  have hI := Lib.hid hi
  have hJ := Lib.hid hj
  clear hT hst hsi hsj hi hj hk hbx t1
  go_enter Tryd.func6, Tryd.ntmps6
  go_wp2_with fail
  refine (alive_is _ HT.out).mono ?_
  rintro e w0 ⟨rfl, k1⟩
  have hx1 := HX.out.kept k1 id
  have hk1 := HK.out.trans k1 (fun _ _ f => f)
  have hT1 := HT.out.kept k1
  have d1 : ∀ p : KW w0, Calls Tryd.prog 17 #[.int .i64 i] p.w fun e w' => e = .returned (.string si) ∧ Kept No p.w w' := fun p => by rw [← HSI.out]; exact decimal_is i hI.out.1 hI.out.2 p.w (hT1.kept p.h)
  have d2 : ∀ p : KW w0, Calls Tryd.prog 17 #[.int .i64 j] p.w fun e w' => e = .returned (.string sj) ∧ Kept No p.w w' := fun p => by rw [← HSJ.out]; exact decimal_is j hJ.out.1 hJ.out.2 p.w (hT1.kept p.h)
  have D1 := Lib.hid d1
  have D2 := Lib.hid d2
  have HT1 := Lib.hid hT1
  obtain ⟨c0, c1, c2⟩ := KW.box3 hx1
  clear k1 hT1 HX HK HT d1 d2
  go_upto_region 3 with fail
  refine wp_region_calm (by kernel_rfl) (by kernel_rfl) ?_
  repeat (go_big_quiet_step (first | (go_at_call 17; with_reducible exact calls_of _ (D1.out _)) | (go_at_call 17; with_reducible exact calls_of _ (D2.out _))))
  refine wpQuiet_nil ?_
  rintro _ ⟨p, rfl⟩
  have hx2 := hx1.kept p.h id
  have e0 : p.w.cell? ⟨w.heap.size, 0, none⟩ = some (.int .i64 k) := hx2.cell 0
  have e1 : p.w.cell? ⟨w.heap.size, 1, none⟩ = some (.int .i64 i) := hx2.cell 1
  have e2 : p.w.cell? ⟨w.heap.size, 2, none⟩ = some (.int .i64 j) := hx2.cell 2
  have hk2 := hk1.trans p.h (fun _ _ f => f)
  have HT2 := Lib.hid (HT1.out.kept p.h)
  generalize p.w = w1 at *
  clear c0 c1 c2 hk1 hx1 hx2 D1 D2 HT1
  by_cases k1 : k = 1
  · subst k1
    have hq : ⟨#[114, 111, 111, 116, 32]⟩ ++ si = st := by rw [← HST.out, ← HSI.out, show (⟨#[114, 111, 111, 116, 32]⟩ : ByteArray) = ⟨([114, 111, 111, 116, 32] : List UInt8).toArray⟩ from rfl, app_mk]; simp [placeT, placeW, Lib.join]
    have hss : (st.toList == st.toList) = true := by simp
    go_wp2_with fail
    refine (T1.out _ HT2.out).mono ?_
    rintro e w3 ⟨rfl, k3⟩
    have hk3 := hk2.trans k3 (fun _ _ f => f)
    go_wp2_with fail
    go_ret
    exact ⟨rfl, hk3.below (Nat.le_refl _) (fun _ _ => id)⟩
  by_cases k2 : k = 2
  · subst k2
    have hq : ⟨#[104, 101, 97, 100, 32]⟩ ++ si = st := by rw [← HST.out, ← HSI.out, show (⟨#[104, 101, 97, 100, 32]⟩ : ByteArray) = ⟨([104, 101, 97, 100, 32] : List UInt8).toArray⟩ from rfl, app_mk]; simp [placeT, placeW, Lib.join]
    have hss : (st.toList == st.toList) = true := by simp
    go_wp2_with fail
    refine (T1.out _ HT2.out).mono ?_
    rintro e w3 ⟨rfl, k3⟩
    have hk3 := hk2.trans k3 (fun _ _ f => f)
    go_wp2_with fail
    go_ret
    exact ⟨rfl, hk3.below (Nat.le_refl _) (fun _ _ => id)⟩
  by_cases k3 : k = 3
  · subst k3
    have hq : ((⟨#[102, 105, 101, 108, 100, 32]⟩ ++ si) ++ ⟨#[32]⟩) ++ sj = st := by rw [← HST.out, ← HSI.out, ← HSJ.out, show (⟨#[102, 105, 101, 108, 100, 32]⟩ : ByteArray) = ⟨([102, 105, 101, 108, 100, 32] : List UInt8).toArray⟩ from rfl, show (⟨#[32]⟩ : ByteArray) = ⟨([32] : List UInt8).toArray⟩ from rfl, app_mk, app_mk, app_mk]; simp [placeT, placeW, Lib.join]
    have hz : st.size ≤ 100 := by rw [← hq]; simp only [ByteArray.size_append]; have : (⟨#[102, 105, 101, 108, 100, 32]⟩ : ByteArray).size = 6 := rfl; have : (⟨#[32]⟩ : ByteArray).size = 1 := rfl; omega
    have hss : (st.toList == st.toList) = true := by simp
    go_wp2_with fail
    refine (T1.out _ HT2.out).mono ?_
    rintro e w3 ⟨rfl, k3⟩
    have hk3 := hk2.trans k3 (fun _ _ f => f)
    go_wp2_with fail
    go_ret
    exact ⟨rfl, hk3.below (Nat.le_refl _) (fun _ _ => id)⟩
  by_cases k4 : k = 4
  · subst k4
    obtain rfl : st = ⟨#[104, 101, 97, 112]⟩ := by rw [← HST.out]; rfl
    skip
    go_wp2_with fail
    refine (T1.out _ HT2.out).mono ?_
    rintro e w3 ⟨rfl, k3⟩
    have hk3 := hk2.trans k3 (fun _ _ f => f)
    go_wp2_with fail
    go_ret
    exact ⟨rfl, hk3.below (Nat.le_refl _) (fun _ _ => id)⟩
  by_cases k5 : k = 5
  · subst k5
    have hq : ((⟨#[115, 108, 111, 116, 32]⟩ ++ si) ++ ⟨#[32]⟩) ++ sj = st := by rw [← HST.out, ← HSI.out, ← HSJ.out, show (⟨#[115, 108, 111, 116, 32]⟩ : ByteArray) = ⟨([115, 108, 111, 116, 32] : List UInt8).toArray⟩ from rfl, show (⟨#[32]⟩ : ByteArray) = ⟨([32] : List UInt8).toArray⟩ from rfl, app_mk, app_mk, app_mk]; simp [placeT, placeW, Lib.join]
    have hz : st.size ≤ 100 := by rw [← hq]; simp only [ByteArray.size_append]; have : (⟨#[115, 108, 111, 116, 32]⟩ : ByteArray).size = 5 := rfl; have : (⟨#[32]⟩ : ByteArray).size = 1 := rfl; omega
    have hss : (st.toList == st.toList) = true := by simp
    go_wp2_with fail
    refine (T1.out _ HT2.out).mono ?_
    rintro e w3 ⟨rfl, k3⟩
    have hk3 := hk2.trans k3 (fun _ _ f => f)
    go_wp2_with fail
    go_ret
    exact ⟨rfl, hk3.below (Nat.le_refl _) (fun _ _ => id)⟩
  by_cases k6 : k = 6
  · subst k6
    obtain rfl : st = ⟨#[101, 112, 111, 99, 104]⟩ := by rw [← HST.out]; rfl
    skip
    go_wp2_with fail
    refine (T1.out _ HT2.out).mono ?_
    rintro e w3 ⟨rfl, k3⟩
    have hk3 := hk2.trans k3 (fun _ _ f => f)
    go_wp2_with fail
    go_ret
    exact ⟨rfl, hk3.below (Nat.le_refl _) (fun _ _ => id)⟩
  by_cases k7 : k = 7
  · subst k7
    have hq : ⟨#[109, 97, 114, 107, 32]⟩ ++ si = st := by rw [← HST.out, ← HSI.out, show (⟨#[109, 97, 114, 107, 32]⟩ : ByteArray) = ⟨([109, 97, 114, 107, 32] : List UInt8).toArray⟩ from rfl, app_mk]; simp [placeT, placeW, Lib.join]
    have hss : (st.toList == st.toList) = true := by simp
    go_wp2_with fail
    refine (T1.out _ HT2.out).mono ?_
    rintro e w3 ⟨rfl, k3⟩
    have hk3 := hk2.trans k3 (fun _ _ f => f)
    go_wp2_with fail
    go_ret
    exact ⟨rfl, hk3.below (Nat.le_refl _) (fun _ _ => id)⟩
  by_cases k8 : k = 8
  · subst k8
    have hq : ⟨#[99, 111, 117, 110, 116, 32]⟩ ++ si = st := by rw [← HST.out, ← HSI.out, show (⟨#[99, 111, 117, 110, 116, 32]⟩ : ByteArray) = ⟨([99, 111, 117, 110, 116, 32] : List UInt8).toArray⟩ from rfl, app_mk]; simp [placeT, placeW, Lib.join]
    have hss : (st.toList == st.toList) = true := by simp
    go_wp2_with fail
    refine (T1.out _ HT2.out).mono ?_
    rintro e w3 ⟨rfl, k3⟩
    have hk3 := hk2.trans k3 (fun _ _ f => f)
    go_wp2_with fail
    go_ret
    exact ⟨rfl, hk3.below (Nat.le_refl _) (fun _ _ => id)⟩
  obtain rfl : st = ⟨#[]⟩ := by rw [← HST.out, placeT, placeW, if_neg k1, if_neg k2, if_neg k3, if_neg k4, if_neg k5, if_neg k6, if_neg k7, if_neg k8]; rfl
  have g1 : (k == 1) = false := by simp [k1]
  have g2 : (k == 2) = false := by simp [k2]
  have g3 : (k == 3) = false := by simp [k3]
  have g4 : (k == 4) = false := by simp [k4]
  have g5 : (k == 5) = false := by simp [k5]
  have g6 : (k == 6) = false := by simp [k6]
  have g7 : (k == 7) = false := by simp [k7]
  have g8 : (k == 8) = false := by simp [k8]
  clear k1 k2 k3 k4 k5 k6 k7 k8
  go_wp2_with fail
  refine (T1.out _ HT2.out).mono ?_
  rintro e w3 ⟨rfl, k3⟩
  have hk3 := hk2.trans k3 (fun _ _ f => f)
  go_wp2_with fail
  go_ret
  exact ⟨rfl, hk3.below (Nat.le_refl _) (fun _ _ => id)⟩
theorem walk (w : World) (hT : Door.Tabs w) (xs : List Int) (hl : xs.length = Tryd.prog.cellsOf 23) (wf : ∀ z ∈ xs, (Lit.int .i64 z).wf = true) :
    Calls Tryd.prog 6 #[.agg (vals xs).toArray] w fun e w' => e = .returned (.bool true) ∧ Below w.heap.size w w' := by
  have h3 : xs.length = 3 := hl.trans (by kernel_rfl)
  match xs, h3, wf with
  | [k, i, j], _, wf => exact walk3 w hT k i j (Open.wf_bd (wf i (by simp))) (Open.wf_bd (wf j (by simp)))

section
open Go.ChangeShapes Go.WideShapes Go.ChangeAt Go.ChangeMaps Go.RowKit Go.Proofs.YtkjhopnhphiiaaaDoor.Own Go.Proofs.YtkjhopnhphiiaaaDoor.Open Go.Proofs.YtkjhopnhphiiaaaDoor.Door

theorem own : ownKnob Tryd.prog.godebug = none := by kernel_rfl
theorem laidOut : laidOutB Tryd.prog = true := by kernel_rfl

theorem door_met (os : Os) (args : Array Value) : laidMetH Tryd.prog Rows.placeTextsRow.laid ((World.doorLaid Tryd.prog 24 os).forCall (fun _ _ => 0) ⟨#[], args, []⟩).memory :=
  laidMetH_of_parts3 (fuel := 8) (laidMet_of_run' 8 (by kernel_rfl) (by kernel_rfl)) (by kernel_rfl) (by kernel_rfl)

set_option maxRecDepth 100000 in
theorem lifted (os : Os) (started : os.Started) (H : Type) (enc : TypeId × Value → H) :
    ReturnsInHanded {} Tryd.checked os 6 .any (fun w args => (Rows.placeTextsSpec.pre enc Tryd.prog Tryd.f6 [] false w args ∧ laidMetH Tryd.prog Rows.placeTextsRow.laid w) ∧ sizedMet enc Tryd.prog Tryd.f6 (OpenSpec.ofChange Rows.placeTextsSpec) false w args) (Rows.placeTextsSpec.post enc Tryd.prog Tryd.f6 false true false false) := by
  refine returnsInHanded_of_change_and (C := Tryd.checked) (X := fun w _ => laidMetH Tryd.prog Rows.placeTextsRow.laid w) (fun _ _ _ hh h => h.of_heap hh) own started (by kernel_rfl) Tryd.func6
    (ChangeSpec.witness_shaped (enc := enc) (C := Tryd.checked) (os := os) (X := fun w _ => laidMetH Tryd.prog Rows.placeTextsRow.laid w) false (World.doorLaid Tryd.prog 24 os) #[.agg #[.int .i64 0, .int .i64 0, .int .i64 0]] 8 rfl (World.shaped_of_RefB (by kernel_rfl) (by kernel_rfl)) (by kernel_rfl) (by kernel_rfl) (by kernel_rfl) (door_met os _)) ?_
  intro W base args ds gs before hval0 hW _ _ hL _
  have hval : ∀ (j : Nat) t v, Tryd.f6.params[j]? = some t → args[j]? = some v → Value.okWide Tryd.prog W .any base t v := hval0
  have hW' := hW
  obtain ⟨p, q, hA0, hV, rfl, hfz, hnd⟩ := hW
  have hA : DataW.TrodAll enc Tryd.prog W 0 (fun _ => true) true Tryd.f6.params.toList args.toList ds p := hA0
  rw [Tryd.params6] at hA hval
  have hA1 := hA
  obtain ⟨v0, vs0, d0, ds0, p0, q0, hargs, rfl, rfl, h0, r0⟩ := trodAll_cons hA
  obtain ⟨rfl, rfl, rfl⟩ := trodAll_nil r0
  obtain rfl : args = #[v0] := by cases args; simp_all
  obtain ⟨rfl, rfl⟩ := trodVars_none hV
  obtain ⟨z0, rfl, l0, wf0⟩ := open_agg_i64 Tryd.underlying23 (by kernel_rfl) (hval 0 23 v0 rfl rfl) h0
  clear hA0 hval0
  simp only [List.append_nil] at hW' hA1
  refine (walk W (tabs_of hL) z0 l0 wf0).mono fun e W' ⟨he, hb⟩ => ?_
  subst he
  exact ⟨_, rfl, ⟨_, _, _, [], _, [], hW', trodAll_mk1 (shut_bool Tryd.underlying4 _), below_args laidOut hb (by kernel_rfl) hA1 (fun x hx => by simpa using hW'.lt x hx), rfl, hb.frame _, fun h => by cases h⟩⟩

theorem said : Rows.PlaceTextsSaid :=
  OpenClaim.holds_of_wide 6 Tryd.f6 rfl rfl rfl rfl rfl rfl rfl ⟨rfl, rfl, rfl, rfl, rfl⟩ rfl rfl rfl rfl rfl (by kernel_rfl) Tryd.func6 (by kernel_rfl)
    (of_decide_eq_true (by kernel_rfl)) (by unfold Func.isWrapper; first | (rw [if_pos (by decide +kernel)]; kernel_rfl) | (rw [if_neg (by decide +kernel)]; exact ⟨rfl, rfl⟩))
    (fun os started H enc _ => lifted os started H enc)

theorem proved : Rows.PlaceTextsCardSaid :=
  Claim7.holds_tied_plain_at .later [] [.data, .data, .data] true Rows.placeTextsCard.stood.harness false
    said (fun _ h => by cases h) (by kernel_rfl) (fun _ h => by cases h) placeTexts_row_tie rfl ⟨rfl, rfl⟩ (by kernel_rfl) rfl
    (fun f fn hf hfn => by
      obtain rfl : f = 6 := Option.some.inj ((show Tryd.prog.funcNamed "warrener/warrenerlaw18.PlaceTexts" = some 6 by kernel_rfl).symm.trans hf) |>.symm
      obtain rfl : fn = Tryd.f6 := (Option.some.inj (Tryd.func6.symm.trans hfn)).symm
      exact ⟨by kernel_rfl, fun j t ht => by
        have hm : t ∈ Tryd.f6.params := Array.mem_of_getElem? ht
        have hall : (Tryd.f6.params.all fun u => !Tryd.prog.wantsStandIn u) = true := by kernel_rfl
        have := Array.all_eq_true_iff_forall_mem.1 hall t hm
        exact (show Tryd.prog.wantsStandIn t = false by simpa using this)⟩)
    (by kernel_rfl)
end
end Go.Proofs.YtkjhopnhphiiaaaDoor.placeTexts
