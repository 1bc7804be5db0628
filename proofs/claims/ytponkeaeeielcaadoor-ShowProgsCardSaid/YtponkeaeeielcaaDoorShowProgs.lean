/-
  ShowProgs answers true, whatever the program is. Condition: the three tables that the row lists lie as their initialisers lay them.
-/
import Derived.Test.YtponkeaeeielcaaDoorLive12
import Derived.Test.YtponkeaeeielcaaDoorFew12
import Derived.Test.YtponkeaeeielcaaDoorRc12
import Derived.Test.YtponkeaeeielcaaDoorRefP12
import Derived.Test.YtponkeaeeielcaaDoorRefSplit
import Derived.Test.YtponkeaeeielcaaDoorRow
import Derived.Test.YtponkeaeeielcaaDoorOpenRows
import Derived.BigQuiet
import Derived.Test.YtponkeaeeielcaaDoorDoor
import Derived.Test.YtponkeaeeielcaaDoorOpen
import Derived.Test.YtponkeaeeielcaaDoorCards
import Derived.Test.YtponkeaeeielcaaDoorTie
set_option linter.unusedVariables false
namespace Go.Proofs.YtponkeaeeielcaaDoor.showProgs
open Go.RowKit Go.Sort Go.Proofs.YtponkeaeeielcaaDoor.Own Go.Proofs.YtponkeaeeielcaaDoor.Line Go.Proofs.YtponkeaeeielcaaDoor.Calm Go.Proofs.YtponkeaeeielcaaDoor.Open

theorem seg_slice {w : World} {B n size : Nat} {e : TypeId} {v : Value} {xs : List Value} (h : Seg w B e size v n xs) : ∃ ao cap, v = .slice ao n cap := by
  rcases h.2 with ⟨h1, h2⟩ | ⟨g, o, cap, cur, h1, _⟩
  · exact ⟨none, 0, by rw [h1, h2]⟩
  · exact ⟨_, _, h1⟩

set_option maxRecDepth 100000 in
set_option maxHeartbeats 8000000 in
theorem walkP (w : World) (hT : Door.Tabs w) (r c s : Int) (hr : int64 r) (hc : int64 c) (hs : int64 s) (ao : Option Addr) (n cap : Nat) (rows : List RowI) (h : Rd w 1 (.slice ao n cap) rows.length (rows.map (·.v))) (hrw : ∀ q ∈ rows, Rd w 5 q.v q.n (vals q.zs) ∧ ∀ z ∈ q.zs, int64 z) :
    Calls Tryd.prog 4 #[.agg #[.int .i64 r, .int .i64 c, .int .i64 s, .slice ao n cap]] w fun e w' => e = .returned (.bool true) ∧ Below w.heap.size w w' := by
  have hbx := Box.new w #[.int .i64 r, .int .i64 c, .int .i64 s, .slice ao n cap] 33
  have hk : Kept No w (w.alloc (.cells #[.int .i64 r, .int .i64 c, .int .i64 s, .slice ao n cap] 33)) := (Kept.refl _ _).alloc _
  have HX := Lib.hid hbx
  have HK := Lib.hid hk
  have HT := Lib.hid hT
  have H := Lib.hid h
  have HRW := Lib.hid hrw
  have HR := Lib.hid hr
  have HC := Lib.hid hc
  have HS := Lib.hid hs
  clear hbx hk hT h hrw hr hc hs
  go_enter Tryd.func4, Tryd.ntmps4
  go_upto_region 1 with fail
  generalize w.alloc (.cells #[.int .i64 r, .int .i64 c, .int .i64 s, .slice ao n cap] 33) = w0 at *
  go_wp2_with fail
  refine (alive_is _ (HT.out.kept HK.out)).mono ?_
  rintro e w1 ⟨rfl, k1⟩
  have hk1 := HK.out.trans k1 (fun _ _ f => f)
  have hx1 := HX.out.kept k1 id
  have c0 : w1.cell? ⟨w.heap.size, 0, none⟩ = some (.int .i64 r) := hx1.cell 0
  have c1 : w1.cell? ⟨w.heap.size, 1, none⟩ = some (.int .i64 c) := hx1.cell 1
  have c2 : w1.cell? ⟨w.heap.size, 2, none⟩ = some (.int .i64 s) := hx1.cell 2
  have c3 : w1.cell? ⟨w.heap.size, 3, none⟩ = some (.slice ao n cap) := hx1.cell 3
  clear k1 HX HK
  go_wp2_with fail
  refine (few_is r c s ao n cap rows w w1 hk1 H.out HRW.out).mono ?_
  rintro e w2 ⟨A, m, cp, rs, rfl, hpr, _, _, k2⟩
  have hx2 := hx1.kept k2 id
  have hk2 := hk1.trans k2 (fun _ _ f => f)
  have hlt : w.heap.size < w1.heap.size := hx1.lt
  clear c0 c1 c2 c3 hx1 k2
  go_upto_region 4 with (refine wpList_store_rowTo rfl 33 _ _ rfl rfl w.heap.size #[.int .i64 r, .int .i64 c, .int .i64 s, .slice A m cp] (by kernel_rfl) (by kernel_rfl) 33 _ hx2 (by kernel_rfl) (by kernel_rfl) (by kernel_rfl) ?_)
  have hx3 := hx2.row (cs := #[.int .i64 r, .int .i64 c, .int .i64 s, .slice A m cp])
  have hk3 := row_kept hk2 (Nat.le_refl w.heap.size) #[.int .i64 r, .int .i64 c, .int .i64 s, .slice A m cp]
  have hp3 : PR (w2.setRow w.heap.size #[.int .i64 r, .int .i64 c, .int .i64 s, .slice A m cp]) (.slice A m cp) rs := hpr _ (by
    have h0 := row_kept (Kept.refl No w2) (Nat.le_refl w2.heap.size) #[.int .i64 r]
    refine ⟨rfl, rfl, rfl, by simp [World.setRow], fun q hq hm => setRow_other w2 w.heap.size q _ (fun e => hm ⟨by omega, by omega⟩)⟩)
  clear hpr hx2 hk1 hk2
  generalize w2.setRow w.heap.size #[.int .i64 r, .int .i64 c, .int .i64 s, .slice A m cp] = w3 at *
  have c0 : w3.cell? ⟨w.heap.size, 0, none⟩ = some (.int .i64 r) := hx3.cell 0
  have c1 : w3.cell? ⟨w.heap.size, 1, none⟩ = some (.int .i64 c) := hx3.cell 1
  have c2 : w3.cell? ⟨w.heap.size, 2, none⟩ = some (.int .i64 s) := hx3.cell 2
  have c3 : w3.cell? ⟨w.heap.size, 3, none⟩ = some (.slice A m cp) := hx3.cell 3
  go_wp2_with fail
  refine (showprog_is r c s HR.out HC.out HS.out A m cp rs w3 (HT.out.kept hk3) hp3).mono ?_
  rintro e w4 ⟨hor, k4⟩
  have hx4 := hx3.kept k4 id
  have hp4 := hp3.kept k4
  have hk4 := hk3.trans k4 (fun _ _ f => f)
  clear c0 c1 c2 c3 hx3 hp3 hk3 k4
  have c0 : w4.cell? ⟨w.heap.size, 0, none⟩ = some (.int .i64 r) := hx4.cell 0
  have c1 : w4.cell? ⟨w.heap.size, 1, none⟩ = some (.int .i64 c) := hx4.cell 1
  have c2 : w4.cell? ⟨w.heap.size, 2, none⟩ = some (.int .i64 s) := hx4.cell 2
  have c3 : w4.cell? ⟨w.heap.size, 3, none⟩ = some (.slice A m cp) := hx4.cell 3
  have hrc := refprog_is r c s HR.out HS.out A m cp rs w4 hp4
  rcases hor with ⟨hne, rfl⟩ | ⟨heq, rfl⟩
  · obtain ⟨ev, hev⟩ : ∃ ev, progE r c s rs = ev := ⟨_, rfl⟩
    rw [hev] at hne hrc ⊢
    have HRC := Lib.hid hrc
    have e0 : (ev != 0) = true := by simp [hne]
    clear hev hne hrc
    go_wp2_with fail
    refine HRC.out.mono ?_
    rintro e w5 ⟨rfl, k5⟩
    have hk5 := hk4.trans k5 (fun _ _ f => f)
    clear c0 c1 c2 c3 k5
    go_wp2_with fail
    go_ret
    exact ⟨by simp, hk5.below (Nat.le_refl _) (fun _ _ => id)⟩
  · rw [heq] at hrc
    have HG := Lib.hid (good_of heq)
    have HRC := Lib.hid hrc
    obtain ⟨st, hst⟩ : ∃ x : ByteArray, (⟨(progT r c s rs).toArray⟩ : ByteArray) = x := ⟨_, rfl⟩
    rw [hst]
    have HST := Lib.hid hst
    have hss : (st.toList == st.toList) = true := by simp
    have HP := Lib.hid hp4
    have HX := Lib.hid hx4
    have HK := Lib.hid hk4
    have e0 : ((0 : Int) != 0) = false := rfl
    clear hrc hst hp4 hx4 hk4 heq
    go_wp2_with fail
    refine HRC.out.mono ?_
    rintro e w5 ⟨rfl, k5⟩
    have hx5 := HX.out.kept k5 id
    have hp5 := HP.out.kept k5
    have hk5 := HK.out.trans k5 (fun _ _ f => f)
    clear c0 c1 c2 c3 k5 HX HP HK
    have c0 : w5.cell? ⟨w.heap.size, 0, none⟩ = some (.int .i64 r) := hx5.cell 0
    have c1 : w5.cell? ⟨w.heap.size, 1, none⟩ = some (.int .i64 c) := hx5.cell 1
    have c2 : w5.cell? ⟨w.heap.size, 2, none⟩ = some (.int .i64 s) := hx5.cell 2
    have c3 : w5.cell? ⟨w.heap.size, 3, none⟩ = some (.slice A m cp) := hx5.cell 3
    have HP := Lib.hid hp5
    have HX := Lib.hid hx5
    have HK := Lib.hid hk5
    clear hx5 hp5 hk5
    go_wp2_with fail
    refine (refprogt_is r c s HR.out HC.out HS.out A m cp rs w5 HP.out HG.out).mono ?_
    rw [HST.out]
    rintro e w6 ⟨rfl, k6⟩
    have hx6 := HX.out.kept k6 id
    have hp6 := HP.out.kept k6
    have hk6 := HK.out.trans k6 (fun _ _ f => f)
    clear c0 c1 c2 c3 k6 HX HP HK
    have c0 : w6.cell? ⟨w.heap.size, 0, none⟩ = some (.int .i64 r) := hx6.cell 0
    have c1 : w6.cell? ⟨w.heap.size, 1, none⟩ = some (.int .i64 c) := hx6.cell 1
    have c2 : w6.cell? ⟨w.heap.size, 2, none⟩ = some (.int .i64 s) := hx6.cell 2
    have c3 : w6.cell? ⟨w.heap.size, 3, none⟩ = some (.slice A m cp) := hx6.cell 3
    have HP := Lib.hid hp6
    have HK := Lib.hid hk6
    clear hx6 hp6 hk6
    go_wp2_with fail
    refine (count_is r c s A m cp rs w6 HP.out HG.out).mono ?_
    rintro e w7 ⟨rfl, k7⟩
    have hk7 := HK.out.trans k7 (fun _ _ f => f)
    have hpl := prog_len HR.out HC.out HS.out HP.out.int HG.out
    have hsp := refsplit_is (progT r c s rs) (by omega) w7
    rw [HST.out] at hsp
    have HSP := Lib.hid hsp
    have hlp := lines_prog r c s rs
    have hcl := cnt_le HG.out.short rs.length
    have hf4 := HG.out.few
    rw [← hlp] at hcl ⊢
    generalize linesL (progT r c s rs) = ll at *
    have HLP := Lib.hid hlp
    clear c0 c1 c2 c3 k7 HP HK hpl hsp hlp
    go_wp2_with fail
    refine HSP.out.mono ?_
    rintro e w8 ⟨k8, v, rfl, hseg⟩
    obtain ⟨A8, cp8, rfl⟩ := seg_slice hseg
    have hk8 := hk7.trans k8 (fun _ _ f => f)
    clear hseg k8 hk7
    go_wp2_with fail
    go_ret
    exact ⟨by simp, hk8.below (Nat.le_refl _) (fun _ _ => id)⟩

theorem walk (w : World) (hT : Door.Tabs w) (r c s : Int) (u : Value) (rows : List Open.RowI) (wr : (Lit.int .i64 r).wf = true) (wc : (Lit.int .i64 c).wf = true) (ws : (Lit.int .i64 s).wf = true) (rd : Rd w 1 u rows.length (rows.map (·.v))) (rr : ∀ q ∈ rows, Rd w 5 q.v q.n (vals q.zs) ∧ ∀ z ∈ q.zs, (Lit.int .i64 z).wf = true) :
    Calls Tryd.prog 4 #[.agg #[.int .i64 r, .int .i64 c, .int .i64 s, u]] w fun e w' => e = .returned (.bool true) ∧ Below w.heap.size w w' := by
  obtain ⟨_, ao, cap, rfl, _⟩ := id rd
  exact walkP w hT r c s (Open.wf_bd wr) (Open.wf_bd wc) (Open.wf_bd ws) ao _ cap rows rd (fun q hq => ⟨(rr q hq).1, fun z hz => Open.wf_bd ((rr q hq).2 z hz)⟩)

section
open Go.ChangeShapes Go.WideShapes Go.ChangeAt Go.ChangeMaps Go.RowKit Go.Proofs.YtponkeaeeielcaaDoor.Own Go.Proofs.YtponkeaeeielcaaDoor.Open Go.Proofs.YtponkeaeeielcaaDoor.Door

theorem own : ownKnob Tryd.prog.godebug = none := by kernel_rfl
theorem laidOut : laidOutB Tryd.prog = true := by kernel_rfl

theorem door_met (os : Os) (args : Array Value) : laidMetH Tryd.prog Rows.showProgsRow.laid ((World.doorLaid Tryd.prog 24 os).forCall (fun _ _ => 0) ⟨#[], args, []⟩).memory :=
  laidMetH_of_parts3 (fuel := 8) (laidMet_of_run' 8 (by kernel_rfl) (by kernel_rfl)) (by kernel_rfl) (by kernel_rfl)

set_option maxRecDepth 100000 in
theorem lifted (os : Os) (started : os.Started) (H : Type) (enc : TypeId × Value → H) :
    ReturnsInHanded {} Tryd.checked os 4 .any (fun w args => (Rows.showProgsSpec.pre enc Tryd.prog Tryd.f4 [] false w args ∧ laidMetH Tryd.prog Rows.showProgsRow.laid w) ∧ sizedMet enc Tryd.prog Tryd.f4 (OpenSpec.ofChange Rows.showProgsSpec) false w args) (Rows.showProgsSpec.post enc Tryd.prog Tryd.f4 false true false false) := by
  refine returnsInHanded_of_change_and (C := Tryd.checked) (X := fun w _ => laidMetH Tryd.prog Rows.showProgsRow.laid w) (fun _ _ _ hh h => h.of_heap hh) own started (by kernel_rfl) Tryd.func4
    (ChangeSpec.witness_shaped (enc := enc) (C := Tryd.checked) (os := os) (X := fun w _ => laidMetH Tryd.prog Rows.showProgsRow.laid w) false (World.doorLaid Tryd.prog 24 os) #[.agg #[.int .i64 0, .int .i64 0, .int .i64 0, .slice none 0 0]] 8 rfl (World.shaped_of_RefB (by kernel_rfl) (by kernel_rfl)) (by kernel_rfl) (by kernel_rfl) (by kernel_rfl) (door_met os _)) ?_
  intro W base args ds gs before hval0 hW _ _ hL _
  have hval : ∀ (j : Nat) t v, Tryd.f4.params[j]? = some t → args[j]? = some v → Value.okWide Tryd.prog W .any base t v := hval0
  have hW' := hW
  obtain ⟨p, q, hA0, hV, rfl, hfz, hnd⟩ := hW
  have hA : DataW.TrodAll enc Tryd.prog W 0 (fun _ => true) true Tryd.f4.params.toList args.toList ds p := hA0
  rw [Tryd.params4] at hA hval
  have hA1 := hA
  obtain ⟨v0, vs0, d0, ds0, p0, q0, hargs, rfl, rfl, h0, r0⟩ := trodAll_cons hA
  obtain ⟨rfl, rfl, rfl⟩ := trodAll_nil r0
  obtain rfl : args = #[v0] := by cases args; simp_all
  obtain ⟨rfl, rfl⟩ := trodVars_none hV
  obtain ⟨ga0, gb0, gc0, gu0, rows0, rfl, wga0, wgb0, wgc0, rdg0, rrg0⟩ := open_prog 5 Tryd.underlying33 (by kernel_rfl) (by kernel_rfl) (by kernel_rfl) (by kernel_rfl) (by kernel_rfl) Tryd.underlying3 Tryd.underlying3 Tryd.underlying3 Tryd.underlying31 Tryd.underlying42 (by kernel_rfl) (by kernel_rfl) (by decide) (by kernel_rfl) (hval 0 33 v0 rfl rfl) h0
  clear hA0 hval0
  simp only [List.append_nil] at hW' hA1
  refine (walk W (tabs_of hL) ga0 gb0 gc0 gu0 rows0 wga0 wgb0 wgc0 rdg0 rrg0).mono fun e W' ⟨he, hb⟩ => ?_
  subst he
  exact ⟨_, rfl, ⟨_, _, _, [], _, [], hW', trodAll_mk1 (shut_bool Tryd.underlying4 _), below_args laidOut hb (by kernel_rfl) hA1 (fun x hx => by simpa using hW'.lt x hx), rfl, hb.frame _, fun h => by cases h⟩⟩

theorem said : Rows.ShowProgsSaid :=
  OpenClaim.holds_of_wide 4 Tryd.f4 rfl rfl rfl rfl rfl rfl rfl ⟨rfl, rfl, rfl, rfl, rfl⟩ rfl rfl rfl rfl rfl (by kernel_rfl) Tryd.func4 (by kernel_rfl)
    (of_decide_eq_true (by kernel_rfl)) (by unfold Func.isWrapper; first | (rw [if_pos (by decide +kernel)]; kernel_rfl) | (rw [if_neg (by decide +kernel)]; exact ⟨rfl, rfl⟩))
    (fun os started H enc _ => lifted os started H enc)

theorem proved : Rows.ShowProgsCardSaid :=
  Claim7.holds_tied_plain_at .later [] [.data, .data, .data] true Rows.showProgsCard.stood.harness false
    said (fun _ h => by cases h) (by kernel_rfl) (fun _ h => by cases h) showProgs_row_tie rfl ⟨rfl, rfl⟩ (by kernel_rfl) rfl
    (fun f fn hf hfn => by
      obtain rfl : f = 4 := Option.some.inj ((show Tryd.prog.funcNamed "warrener/warrenerlaw12.ShowProgs" = some 4 by kernel_rfl).symm.trans hf) |>.symm
      obtain rfl : fn = Tryd.f4 := (Option.some.inj (Tryd.func4.symm.trans hfn)).symm
      exact ⟨by kernel_rfl, fun j t ht => by
        have hm : t ∈ Tryd.f4.params := Array.mem_of_getElem? ht
        have hall : (Tryd.f4.params.all fun u => !Tryd.prog.wantsStandIn u) = true := by kernel_rfl
        have := Array.all_eq_true_iff_forall_mem.1 hall t hm
        exact (show Tryd.prog.wantsStandIn t = false by simpa using this)⟩)
    (by kernel_rfl)
end
end Go.Proofs.YtponkeaeeielcaaDoor.showProgs
