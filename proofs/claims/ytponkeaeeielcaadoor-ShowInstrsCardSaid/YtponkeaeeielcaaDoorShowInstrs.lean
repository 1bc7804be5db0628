/-
  ShowInstrs answers true, whatever the instruction is. Condition: the three tables that the row lists lie as their initialisers lay them.
-/
import Derived.Test.YtponkeaeeielcaaDoorLive12
import Derived.BigQuiet
import Derived.Test.YtponkeaeeielcaaDoorDoor
import Derived.Test.YtponkeaeeielcaaDoorOpen
import Derived.Test.YtponkeaeeielcaaDoorCards
import Derived.Test.YtponkeaeeielcaaDoorTie
set_option linter.unusedVariables false
namespace Go.Proofs.YtponkeaeeielcaaDoor.showInstrs
open Go.RowKit Go.Proofs.YtponkeaeeielcaaDoor.Own Go.Proofs.YtponkeaeeielcaaDoor.Line

set_option maxHeartbeats 4000000 in
theorem walk5 (w : World) (hT : Door.Tabs w) (z a b c n : Int) (ha : int64 a) (hb : int64 b) (hc : int64 c) (hn : int64 n) :
    Calls Tryd.prog 3 #[.agg #[.int .i64 z, .int .i64 a, .int .i64 b, .int .i64 c, .int .i64 n]] w fun e w' => e = .returned (.bool true) ∧ Below w.heap.size w w' := by
  obtain ⟨sn, hsn⟩ : ∃ s : ByteArray, (⟨(nameZ z).toArray⟩ : ByteArray) = s := ⟨_, rfl⟩
  obtain ⟨st, hst⟩ : ∃ s : ByteArray, (⟨(instrT z a b c n).toArray⟩ : ByteArray) = s := ⟨_, rfl⟩
  have hss : (st.toList == st.toList) = true := by simp
  have HT := Lib.hid hT
  have HSN := Lib.hid hsn
  have HST := Lib.hid hst
  have Ha := Lib.hid ha
  have Hb := Lib.hid hb
  have Hc := Lib.hid hc
  have Hn := Lib.hid hn
  clear hT hsn hst ha hb hc hn
  go_enter Tryd.func3, Tryd.ntmps3
  go_wp2_with fail
  have HT1 : Hid (Door.Tabs (w.alloc (.cells #[.int .i64 z, .int .i64 a, .int .i64 b, .int .i64 c, .int .i64 n] 23))) := Lib.hid (HT.out.kept ((Kept.refl _ _).alloc _))
  refine (alive_is _ HT1.out).mono ?_
  rintro e w1 ⟨rfl, k1⟩
  have hx1 : Box w1 w.heap.size #[.int .i64 z, .int .i64 a, .int .i64 b, .int .i64 c, .int .i64 n] 23 := (Box.new w _ _).kept k1 id
  have hk1 : Kept No w w1 := ((Kept.refl _ _).alloc _).trans k1 (fun _ _ f => f)
  have HT2 := Lib.hid (HT1.out.kept k1)
  clear k1 HT1
  have d0 : w1.cell? ⟨w.heap.size, 0, none⟩ = some (.int .i64 z) := hx1.cell 0
  have d1 : w1.cell? ⟨w.heap.size, 1, none⟩ = some (.int .i64 a) := hx1.cell 1
  have d2 : w1.cell? ⟨w.heap.size, 2, none⟩ = some (.int .i64 b) := hx1.cell 2
  have d3 : w1.cell? ⟨w.heap.size, 3, none⟩ = some (.int .i64 c) := hx1.cell 3
  have d4 : w1.cell? ⟨w.heap.size, 4, none⟩ = some (.int .i64 n) := hx1.cell 4
  go_wp2_with fail
  by_cases hin : 1 ≤ z ∧ z ≤ 25
  · refine (show_in z a b c n Ha.out Hb.out Hc.out Hn.out hin w1 HT2.out).mono ?_
    rw [HST.out]
    rintro e w2 ⟨rfl, k2⟩
    have hx2 := hx1.kept k2 id
    have hk2 := hk1.trans k2 (fun _ _ f => f)
    have hne : sn.toList.isEmpty = false := by
      have := name_ne hin
      rw [toList_mk2 HSN.out]
      cases h : nameZ z with
      | nil => exact (this h).elim
      | cons x r => rfl
    have Hin := Lib.hid hin
    clear k2 hx1 hk1 d0 d1 d2 d3 d4 hin
    have d0 : w2.cell? ⟨w.heap.size, 0, none⟩ = some (.int .i64 z) := hx2.cell 0
    go_wp2_with fail
    refine (refname_is z w2).mono ?_
    rw [HSN.out]
    rintro e w3 ⟨rfl, k3⟩
    have hx3 := hx2.kept k3 id
    have hk3 := hk2.trans k3 (fun _ _ f => f)
    clear k3 hx2 hk2 d0
    have d0 : w3.cell? ⟨w.heap.size, 0, none⟩ = some (.int .i64 z) := hx3.cell 0
    have d1 : w3.cell? ⟨w.heap.size, 1, none⟩ = some (.int .i64 a) := hx3.cell 1
    have d2 : w3.cell? ⟨w.heap.size, 2, none⟩ = some (.int .i64 b) := hx3.cell 2
    have d3 : w3.cell? ⟨w.heap.size, 3, none⟩ = some (.int .i64 c) := hx3.cell 3
    have d4 : w3.cell? ⟨w.heap.size, 4, none⟩ = some (.int .i64 n) := hx3.cell 4
    go_wp2_with fail
    refine (refinstr_is z a b c n Ha.out Hb.out Hc.out Hn.out Hin.out w3).mono ?_
    rw [HST.out]
    rintro e w4 ⟨rfl, k4⟩
    have hk4 := hk3.trans k4 (fun _ _ f => f)
    clear k4
    go_wp2_with fail
    go_ret
    exact ⟨rfl, hk4.below (Nat.le_refl _) (fun _ _ => id)⟩
  · refine (show_out z a b c n hin w1).mono ?_
    rintro e w2 ⟨rfl, k2⟩
    have hx2 := hx1.kept k2 id
    have hk2 := hk1.trans k2 (fun _ _ f => f)
    have hnz := nameZ_out hin
    have HNZ := Lib.hid hnz
    clear k2 hx1 hk1 d0 d1 d2 d3 d4 hin hnz
    have d0 : w2.cell? ⟨w.heap.size, 0, none⟩ = some (.int .i64 z) := hx2.cell 0
    go_wp2_with fail
    refine (refname_is z w2).mono ?_
    rw [HNZ.out]
    rintro e w3 ⟨rfl, k3⟩
    have hk3 := hk2.trans k3 (fun _ _ f => f)
    clear k3
    go_wp2_with fail
    go_ret
    exact ⟨rfl, hk3.below (Nat.le_refl _) (fun _ _ => id)⟩

theorem walk (w : World) (hT : Door.Tabs w) (zs : List Int) (hl : zs.length = Tryd.prog.cellsOf 23) (wf : ∀ z ∈ zs, (Lit.int .i64 z).wf = true) :
    Calls Tryd.prog 3 #[.agg (vals zs).toArray] w fun e w' => e = .returned (.bool true) ∧ Below w.heap.size w w' := by
  have h5 : zs.length = 5 := hl.trans (by kernel_rfl)
  match zs, h5, wf with
  | [z, a, b, c, n], _, wf =>
    exact walk5 w hT z a b c n (Open.wf_bd (wf a (by simp))) (Open.wf_bd (wf b (by simp))) (Open.wf_bd (wf c (by simp))) (Open.wf_bd (wf n (by simp)))

section
open Go.ChangeShapes Go.WideShapes Go.ChangeAt Go.ChangeMaps Go.RowKit Go.Proofs.YtponkeaeeielcaaDoor.Own Go.Proofs.YtponkeaeeielcaaDoor.Open Go.Proofs.YtponkeaeeielcaaDoor.Door

theorem own : ownKnob Tryd.prog.godebug = none := by kernel_rfl
theorem laidOut : laidOutB Tryd.prog = true := by kernel_rfl

theorem door_met (os : Os) (args : Array Value) : laidMetH Tryd.prog Rows.showInstrsRow.laid ((World.doorLaid Tryd.prog 24 os).forCall (fun _ _ => 0) ⟨#[], args, []⟩).memory :=
  laidMetH_of_parts3 (fuel := 8) (laidMet_of_run' 8 (by kernel_rfl) (by kernel_rfl)) (by kernel_rfl) (by kernel_rfl)

set_option maxRecDepth 100000 in
theorem lifted (os : Os) (started : os.Started) (H : Type) (enc : TypeId × Value → H) :
    ReturnsInHanded {} Tryd.checked os 3 .any (fun w args => (Rows.showInstrsSpec.pre enc Tryd.prog Tryd.f3 [] false w args ∧ laidMetH Tryd.prog Rows.showInstrsRow.laid w) ∧ sizedMet enc Tryd.prog Tryd.f3 (OpenSpec.ofChange Rows.showInstrsSpec) false w args) (Rows.showInstrsSpec.post enc Tryd.prog Tryd.f3 false true false false) := by
  refine returnsInHanded_of_change_and (C := Tryd.checked) (X := fun w _ => laidMetH Tryd.prog Rows.showInstrsRow.laid w) (fun _ _ _ hh h => h.of_heap hh) own started (by kernel_rfl) Tryd.func3
    (ChangeSpec.witness_shaped (enc := enc) (C := Tryd.checked) (os := os) (X := fun w _ => laidMetH Tryd.prog Rows.showInstrsRow.laid w) false (World.doorLaid Tryd.prog 24 os) #[.agg #[.int .i64 0, .int .i64 0, .int .i64 0, .int .i64 0, .int .i64 0]] 8 rfl (World.shaped_of_RefB (by kernel_rfl) (by kernel_rfl)) (by kernel_rfl) (by kernel_rfl) (by kernel_rfl) (door_met os _)) ?_
  intro W base args ds gs before hval0 hW _ _ hL _
  have hval : ∀ (j : Nat) t v, Tryd.f3.params[j]? = some t → args[j]? = some v → Value.okWide Tryd.prog W .any base t v := hval0
  have hW' := hW
  obtain ⟨p, q, hA0, hV, rfl, hfz, hnd⟩ := hW
  have hA : DataW.TrodAll enc Tryd.prog W 0 (fun _ => true) true Tryd.f3.params.toList args.toList ds p := hA0
  rw [Tryd.params3] at hA hval
  have hA1 := hA
  obtain ⟨v0, vs0, d0, ds0, p0, q0, hargs, rfl, rfl, h0, r0⟩ := trodAll_cons hA
  obtain ⟨rfl, rfl, rfl⟩ := trodAll_nil r0
  obtain rfl : args = #[v0] := by cases args; simp_all
  obtain ⟨rfl, rfl⟩ := trodVars_none hV
  obtain ⟨z0, rfl, l0, wf0⟩ := open_agg_i64 Tryd.underlying23 (by kernel_rfl) (hval 0 23 v0 rfl rfl) h0
  clear hA0 hval0
  simp only [List.append_nil] at hW' hA1
  refine (walk W (tabs_of hL) z0 l0 wf0).mono fun e W' ⟨he, hb⟩ => ?_
  subst he
  exact ⟨_, rfl, ⟨_, _, _, [], _, [], hW', trodAll_mk1 (shut_bool Tryd.underlying4 _), below_args laidOut hb (by kernel_rfl) hA1 (fun x hx => by simpa using hW'.lt x hx), rfl, hb.frame _, fun h => by cases h⟩⟩

theorem said : Rows.ShowInstrsSaid :=
  OpenClaim.holds_of_wide 3 Tryd.f3 rfl rfl rfl rfl rfl rfl rfl ⟨rfl, rfl, rfl, rfl, rfl⟩ rfl rfl rfl rfl rfl (by kernel_rfl) Tryd.func3 (by kernel_rfl)
    (of_decide_eq_true (by kernel_rfl)) (by unfold Func.isWrapper; first | (rw [if_pos (by decide +kernel)]; kernel_rfl) | (rw [if_neg (by decide +kernel)]; exact ⟨rfl, rfl⟩))
    (fun os started H enc _ => lifted os started H enc)

theorem proved : Rows.ShowInstrsCardSaid :=
  Claim7.holds_tied_plain_at .later [] [.data, .data, .data] true Rows.showInstrsCard.stood.harness false
    said (fun _ h => by cases h) (by kernel_rfl) (fun _ h => by cases h) showInstrs_row_tie rfl ⟨rfl, rfl⟩ (by kernel_rfl) rfl
    (fun f fn hf hfn => by
      obtain rfl : f = 3 := Option.some.inj ((show Tryd.prog.funcNamed "warrener/warrenerlaw12.ShowInstrs" = some 3 by kernel_rfl).symm.trans hf) |>.symm
      obtain rfl : fn = Tryd.f3 := (Option.some.inj (Tryd.func3.symm.trans hfn)).symm
      exact ⟨by kernel_rfl, fun j t ht => by
        have hm : t ∈ Tryd.f3.params := Array.mem_of_getElem? ht
        have hall : (Tryd.f3.params.all fun u => !Tryd.prog.wantsStandIn u) = true := by kernel_rfl
        have := Array.all_eq_true_iff_forall_mem.1 hall t hm
        exact (show Tryd.prog.wantsStandIn t = false by simpa using this)⟩)
    (by kernel_rfl)
end
end Go.Proofs.YtponkeaeeielcaaDoor.showInstrs
