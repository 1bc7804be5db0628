/-
  AsmBack answers true, whatever the program is. Condition: the seven variables that the row lists lie as their initialisers lay them.
-/
import Derived.Test.YtjpddfnkamahfaaDoorAsmB13
import Derived.Test.YtjpddfnkamahfaaDoorFew12
import Derived.Test.YtjpddfnkamahfaaDoorRc12
import Derived.Test.YtjpddfnkamahfaaDoorOpenRows
import Derived.BigQuiet
import Derived.Lay
import Derived.MakeChecks
import Derived.Test.YtjpddfnkamahfaaDoorDoor
import Derived.Test.YtjpddfnkamahfaaDoorOpen
import Derived.Test.YtjpddfnkamahfaaDoorCards
import Derived.Test.YtjpddfnkamahfaaDoorTie
set_option linter.unusedVariables false
namespace Go.Proofs.YtjpddfnkamahfaaDoor.asmBack
open Go.RowKit Go.Sort Go.Proofs.YtjpddfnkamahfaaDoor.Own Go.Proofs.YtjpddfnkamahfaaDoor.Conv Go.Proofs.YtjpddfnkamahfaaDoor.Line Go.Proofs.YtjpddfnkamahfaaDoor.Calm Go.Proofs.YtjpddfnkamahfaaDoor.Open

theorem seg_slice {w : World} {B n size : Nat} {e : TypeId} {v : Value} {xs : List Value} (h : Seg w B e size v n xs) : ∃ ao cap, v = .slice ao n cap := by
  rcases h.2 with ⟨h1, h2⟩ | ⟨g, o, cap, cur, h1, _⟩
  · exact ⟨none, 0, by rw [h1, h2]⟩
  · exact ⟨_, _, h1⟩

set_option maxRecDepth 100000 in
set_option maxHeartbeats 8000000 in
theorem walkP (w : World) (hT : Door.Tabs w) (r c s : Int) (hr : int64 r) (hc : int64 c) (hs : int64 s) (ao : Option Addr) (n cap : Nat) (rows : List RowI) (h : Rd w 1 (.slice ao n cap) rows.length (rows.map (·.v))) (hrw : ∀ q ∈ rows, Rd w 5 q.v q.n (vals q.zs) ∧ ∀ z ∈ q.zs, int64 z) :
    Calls Tryd.prog 4 #[.agg #[.int .i64 r, .int .i64 c, .int .i64 s, .slice ao n cap]] w fun e w' => e = .returned (.bool true) ∧ Below w.heap.size w w' := by
  have hbx := Box.new w #[.int .i64 r, .int .i64 c, .int .i64 s, .slice ao n cap] 32
  have hk : Kept No w (w.alloc (.cells #[.int .i64 r, .int .i64 c, .int .i64 s, .slice ao n cap] 32)) := (Kept.refl _ _).alloc _
  have HX := Lib.hid hbx
  have HK := Lib.hid hk
  have HT := Lib.hid hT
  have H := Lib.hid h
  have HRW := Lib.hid hrw
  have HR := Lib.hid hr
  have HC := Lib.hid hc
  have HS := Lib.hid hs
  clear hbx hk hT h hrw hr hc hs
  go_enter Tryd.func4, Tryd.ntmps4
  go_upto_region 1 with fail
  generalize w.alloc (.cells #[.int .i64 r, .int .i64 c, .int .i64 s, .slice ao n cap] 32) = w0 at *
  go_wp2_with fail
  refine (alive_is _ (HT.out.kept HK.out)).mono ?_
  rintro e w1 ⟨rfl, k1⟩
  have hk1 := HK.out.trans k1 (fun _ _ f => f)
  have hx1 := HX.out.kept k1 id
  have c0 : w1.cell? ⟨w.heap.size, 0, none⟩ = some (.int .i64 r) := hx1.cell 0
  have c1 : w1.cell? ⟨w.heap.size, 1, none⟩ = some (.int .i64 c) := hx1.cell 1
  have c2 : w1.cell? ⟨w.heap.size, 2, none⟩ = some (.int .i64 s) := hx1.cell 2
  have c3 : w1.cell? ⟨w.heap.size, 3, none⟩ = some (.slice ao n cap) := hx1.cell 3
  clear k1 HX HK
  go_wp2_with fail
  refine (few_is r c s ao n cap rows w w1 hk1 H.out HRW.out).mono ?_
  rintro e w2 ⟨A, m, cp, rs, rfl, hpr, -, -, k2⟩
  have hx2 := hx1.kept k2 id
  have hk2 := hk1.trans k2 (fun _ _ f => f)
  have hlt : w.heap.size < w1.heap.size := hx1.lt
  clear c0 c1 c2 c3 hx1 k2
  go_upto_region 4 with (refine wpList_store_rowTo rfl 32 _ _ rfl rfl w.heap.size #[.int .i64 r, .int .i64 c, .int .i64 s, .slice A m cp] (by kernel_rfl) (by kernel_rfl) 32 _ hx2 (by kernel_rfl) (by kernel_rfl) (by kernel_rfl) ?_)
  have hx3 := hx2.row (cs := #[.int .i64 r, .int .i64 c, .int .i64 s, .slice A m cp])
  have hk3 := row_kept hk2 (Nat.le_refl w.heap.size) #[.int .i64 r, .int .i64 c, .int .i64 s, .slice A m cp]
  have hp3 : PR (w2.setRow w.heap.size #[.int .i64 r, .int .i64 c, .int .i64 s, .slice A m cp]) (.slice A m cp) rs := hpr _ (by
    refine ⟨rfl, rfl, rfl, by simp [World.setRow], fun q hq hm => setRow_other w2 w.heap.size q _ (fun e => hm ⟨by omega, by omega⟩)⟩)
  have hms := hp3.len.1
  clear hpr hx2 hk1 hk2
  generalize w2.setRow w.heap.size #[.int .i64 r, .int .i64 c, .int .i64 s, .slice A m cp] = w3 at *
  subst hms
  have c0 : w3.cell? ⟨w.heap.size, 0, none⟩ = some (.int .i64 r) := hx3.cell 0
  have c1 : w3.cell? ⟨w.heap.size, 1, none⟩ = some (.int .i64 c) := hx3.cell 1
  have c2 : w3.cell? ⟨w.heap.size, 2, none⟩ = some (.int .i64 s) := hx3.cell 2
  have c3 : w3.cell? ⟨w.heap.size, 3, none⟩ = some (.slice A rs.length cp) := hx3.cell 3
  have hrc := refprog_is r c s HR.out HS.out A rs.length cp rs w3 hp3
  obtain ⟨ev, hev⟩ : ∃ ev, progE r c s rs = ev := ⟨_, rfl⟩
  rw [hev] at hrc
  have HRC := Lib.hid hrc
  clear hrc
  by_cases h0 : ev = 0
  · subst h0
    have HG := Lib.hid (good_of hev)
    have HF := Lib.hid (fine_of hev)
    have HEV := Lib.hid hev
    have hpl := prog_len HR.out HC.out HS.out hp3.int HG.out
    have hlp := lines_of_prog r c s rs
    have hrun := run_prog hp3.int HF.out
    rw [← hlp] at hrun
    have hPB := fun w hT hp => parse_back (progT r c s rs) (by omega) r c s HR.out HS.out (.slice A rs.length cp) rs w hT hp HEV.out hrun
    have hRP := fun w hp => refprogt_is r c s HR.out HC.out HS.out A rs.length cp rs w hp HG.out
    have hSP := fun w => refsplit_is (progT r c s rs) (by omega) w
    have hll : (linesL (progT r c s rs)).length ≤ 100 := by
      rw [hlp, progL, List.length_cons]
      have : ∀ T, (bodyL rs T).length ≤ 17 * T := by
        intro T
        induction T with
        | zero => simp [bodyL]
        | succ T ih =>
          have := HF.out.short T
          rw [bodyL_step, List.length_append, threadL, List.length_cons, List.length_map, List.length_range]
          omega
      have := this rs.length
      have := HF.out.few
      omega
    obtain ⟨st, hst⟩ : ∃ x : ByteArray, (⟨(progT r c s rs).toArray⟩ : ByteArray) = x := ⟨_, rfl⟩
    rw [hst] at hPB hRP hSP
    generalize linesL (progT r c s rs) = ll at *
    have HPB := Lib.hid hPB
    have HRP := Lib.hid hRP
    have HSP := Lib.hid hSP
    have HX := Lib.hid hx3
    have HK := Lib.hid hk3
    have HP := Lib.hid hp3
    have e0 : ((0 : Int) != 0) = false := rfl
    clear hev hpl hlp hrun hPB hRP hSP hst hx3 hk3 hp3 HG HF HEV
    go_wp2_with fail
    refine HRC.out.mono ?_
    rintro e w5 ⟨rfl, k5⟩
    have hx5 := HX.out.kept k5 id
    have hp5 := HP.out.kept k5
    have hk5 := HK.out.trans k5 (fun _ _ f => f)
    clear c0 c1 c2 c3 k5 HX HP HK
    have c0 : w5.cell? ⟨w.heap.size, 0, none⟩ = some (.int .i64 r) := hx5.cell 0
    have c1 : w5.cell? ⟨w.heap.size, 1, none⟩ = some (.int .i64 c) := hx5.cell 1
    have c2 : w5.cell? ⟨w.heap.size, 2, none⟩ = some (.int .i64 s) := hx5.cell 2
    have c3 : w5.cell? ⟨w.heap.size, 3, none⟩ = some (.slice A rs.length cp) := hx5.cell 3
    have HP := Lib.hid hp5
    have HX := Lib.hid hx5
    have HK := Lib.hid hk5
    clear hx5 hp5 hk5
    go_wp2_with fail
    refine (HRP.out w5 HP.out).mono ?_
    rintro e w6 ⟨rfl, k6⟩
    have HX6 := Lib.hid (HX.out.kept k6 id)
    have HP6 := Lib.hid (HP.out.kept k6)
    have HK6 := Lib.hid (HK.out.trans k6 (fun _ _ f => f))
    clear c0 c1 c2 c3 k6 HX HP HK
    go_wp2_with fail
    refine (HPB.out w6 (HT.out.kept HK6.out) HP6.out).mono ?_
    rintro e w7 ⟨k7, a, cp', rows', rfl, hp', hlr, hsame⟩
    have HX7 := Lib.hid ((HX6.out.kept k7 id).alloc (.cells #[.int .i64 r, .int .i64 c, .int .i64 s, .slice a rs.length cp'] 32))
    have hkA := (Kept.refl No w7).alloc (.cells #[.int .i64 r, .int .i64 c, .int .i64 s, .slice a rs.length cp'] 32)
    have HP7 := Lib.hid ((HP6.out.kept k7).kept hkA)
    have HQ7 := Lib.hid (hp'.kept hkA)
    have HK7 := Lib.hid ((HK6.out.trans k7 (fun _ _ f => f)).trans hkA (fun _ _ f => f))
    have HY7 := Lib.hid (Box.new w7 #[.int .i64 r, .int .i64 c, .int .i64 s, .slice a rs.length cp'] 32)
    have HS7 := Lib.hid hsame
    have HL7 := Lib.hid hlr
    clear k7 hp' hlr hsame HX6 HP6 HK6 hkA
    go_upto_region 8 with fail
    generalize w7.alloc (.cells #[.int .i64 r, .int .i64 c, .int .i64 s, .slice a rs.length cp'] 32) = w8 at *
    have c0 : w8.cell? ⟨w.heap.size, 0, none⟩ = some (.int .i64 r) := HX7.out.cell 0
    have c1 : w8.cell? ⟨w.heap.size, 1, none⟩ = some (.int .i64 c) := HX7.out.cell 1
    have c2 : w8.cell? ⟨w.heap.size, 2, none⟩ = some (.int .i64 s) := HX7.out.cell 2
    have c3 : w8.cell? ⟨w.heap.size, 3, none⟩ = some (.slice A rs.length cp) := HX7.out.cell 3
    have d0 : w8.cell? ⟨w7.heap.size, 0, none⟩ = some (.int .i64 r) := HY7.out.cell 0
    have d1 : w8.cell? ⟨w7.heap.size, 1, none⟩ = some (.int .i64 c) := HY7.out.cell 1
    have d2 : w8.cell? ⟨w7.heap.size, 2, none⟩ = some (.int .i64 s) := HY7.out.cell 2
    have d3 : w8.cell? ⟨w7.heap.size, 3, none⟩ = some (.slice a rs.length cp') := HY7.out.cell 3
    go_wp2_with fail
    refine (plainprog_is w8 r c s _ _ rs rows' HP7.out HQ7.out HL7.out HS7.out).mono ?_
    rintro e w9 ⟨rfl, k9⟩
    have HK9 := Lib.hid (HK7.out.trans k9 (fun _ _ f => f))
    clear k9 c0 c1 c2 c3 d0 d1 d2 d3 HX7 HP7 HQ7 HK7 HY7 HS7 HL7
    go_wp2_with fail
    refine (HSP.out w9).mono ?_
    rintro e w10 ⟨k10, v, rfl, hseg⟩
    obtain ⟨A8, cp8, rfl⟩ := seg_slice hseg
    have HK10 := Lib.hid (HK9.out.trans k10 (fun _ _ f => f))
    clear hseg k10 HK9
    go_wp2_with fail
    go_ret
    exact ⟨by simp, HK10.out.below (Nat.le_refl _) (fun _ _ => id)⟩
  · have e0 : (ev != 0) = true := by simp [h0]
    have HK := Lib.hid hk3
    clear hev h0 hk3 hx3 hp3
    go_wp2_with fail
    refine HRC.out.mono ?_
    rintro e w5 ⟨rfl, k5⟩
    have HK5 := Lib.hid (HK.out.trans k5 (fun _ _ f => f))
    clear c0 c1 c2 c3 k5
    go_wp2_with fail
    go_ret
    exact ⟨by simp, HK5.out.below (Nat.le_refl _) (fun _ _ => id)⟩

theorem walk (w : World) (hT : Door.Tabs w) (r c s : Int) (u : Value) (rows : List Open.RowI) (wr : (Lit.int .i64 r).wf = true) (wc : (Lit.int .i64 c).wf = true) (ws : (Lit.int .i64 s).wf = true) (rd : Rd w 1 u rows.length (rows.map (·.v))) (rr : ∀ q ∈ rows, Rd w 5 q.v q.n (vals q.zs) ∧ ∀ z ∈ q.zs, (Lit.int .i64 z).wf = true) :
    Calls Tryd.prog 4 #[.agg #[.int .i64 r, .int .i64 c, .int .i64 s, u]] w fun e w' => e = .returned (.bool true) ∧ Below w.heap.size w w' := by
  obtain ⟨_, ao, cap, rfl, _⟩ := id rd
  exact walkP w hT r c s (Open.wf_bd wr) (Open.wf_bd wc) (Open.wf_bd ws) ao _ cap rows rd (fun q hq => ⟨(rr q hq).1, fun z hz => Open.wf_bd ((rr q hq).2 z hz)⟩)

section
open Go.ChangeShapes Go.WideShapes Go.ChangeAt Go.ChangeMaps Go.RowKit Go.Proofs.YtjpddfnkamahfaaDoor.Own Go.Proofs.YtjpddfnkamahfaaDoor.Open Go.Proofs.YtjpddfnkamahfaaDoor.Door

theorem own : ownKnob Tryd.prog.godebug = none := by kernel_rfl
theorem laidOut : laidOutB Tryd.prog = true := by kernel_rfl

theorem door_met (os : Os) (args : Array Value) : laidMetH Tryd.prog Rows.asmBackRow.laid ((World.laidAll Tryd.prog os Rows.asmBackRow.laid).forCall (fun _ _ => 0) ⟨#[], args, []⟩).memory := by
  rw [MakeChecks.laidMetH_plain _ _ _ (by kernel_rfl)]
  exact laidMet_laidAll _ (by kernel_rfl) (by kernel_rfl)

set_option maxRecDepth 100000 in
theorem lifted (os : Os) (started : os.Started) (H : Type) (enc : TypeId × Value → H) :
    ReturnsInHanded {} Tryd.checked os 4 .any (fun w args => (Rows.asmBackSpec.pre enc Tryd.prog Tryd.f4 [] false w args ∧ laidMetH Tryd.prog Rows.asmBackRow.laid w) ∧ sizedMet enc Tryd.prog Tryd.f4 (OpenSpec.ofChange Rows.asmBackSpec) false w args) (Rows.asmBackSpec.post enc Tryd.prog Tryd.f4 false true false false) := by
  refine returnsInHanded_of_change_and (C := Tryd.checked) (X := fun w _ => laidMetH Tryd.prog Rows.asmBackRow.laid w) (fun _ _ _ hh h => h.of_heap hh) own started (by kernel_rfl) Tryd.func4
    (ChangeSpec.witness_shaped (enc := enc) (C := Tryd.checked) (os := os) (X := fun w _ => laidMetH Tryd.prog Rows.asmBackRow.laid w) false (World.laidAll Tryd.prog os Rows.asmBackRow.laid) #[.agg #[.int .i64 0, .int .i64 0, .int .i64 0, .slice none 0 0]] 8 (World.laidAll_os _ _ _) (World.shaped_of_ZipB (by kernel_rfl) (by kernel_rfl)) (by kernel_rfl) (by kernel_rfl) (by kernel_rfl) (door_met os _)) ?_
  intro W base args ds gs before hval0 hW _ _ hL _
  have hval : ∀ (j : Nat) t v, Tryd.f4.params[j]? = some t → args[j]? = some v → Value.okWide Tryd.prog W .any base t v := hval0
  have hW' := hW
  obtain ⟨p, q, hA0, hV, rfl, hfz, hnd⟩ := hW
  have hA : DataW.TrodAll enc Tryd.prog W 0 (fun _ => true) true Tryd.f4.params.toList args.toList ds p := hA0
  rw [Tryd.params4] at hA hval
  have hA1 := hA
  obtain ⟨v0, vs0, d0, ds0, p0, q0, hargs, rfl, rfl, h0, r0⟩ := trodAll_cons hA
  obtain ⟨rfl, rfl, rfl⟩ := trodAll_nil r0
  obtain rfl : args = #[v0] := by cases args; simp_all
  obtain ⟨rfl, rfl⟩ := trodVars_none hV
  obtain ⟨ga0, gb0, gc0, gu0, rows0, rfl, wga0, wgb0, wgc0, rdg0, rrg0⟩ := open_prog 5 Tryd.underlying32 (by kernel_rfl) (by kernel_rfl) (by kernel_rfl) (by kernel_rfl) (by kernel_rfl) Tryd.underlying3 Tryd.underlying3 Tryd.underlying3 Tryd.underlying30 Tryd.underlying52 (by kernel_rfl) (by kernel_rfl) (by decide) (by kernel_rfl) (hval 0 32 v0 rfl rfl) h0
  clear hA0 hval0
  simp only [List.append_nil] at hW' hA1
  refine (walk W (tabs_of hL) ga0 gb0 gc0 gu0 rows0 wga0 wgb0 wgc0 rdg0 rrg0).mono fun e W' ⟨he, hb⟩ => ?_
  subst he
  exact ⟨_, rfl, ⟨_, _, _, [], _, [], hW', trodAll_mk1 (shut_bool Tryd.underlying4 _), below_args laidOut hb (by kernel_rfl) hA1 (fun x hx => by simpa using hW'.lt x hx), rfl, hb.frame _, fun h => by cases h⟩⟩

theorem said : Rows.AsmBackSaid :=
  OpenClaim.holds_of_wide 4 Tryd.f4 rfl rfl rfl rfl rfl rfl rfl ⟨rfl, rfl, rfl, rfl, rfl⟩ rfl rfl rfl rfl rfl (by kernel_rfl) Tryd.func4 (by kernel_rfl)
    (of_decide_eq_true (by kernel_rfl)) (by unfold Func.isWrapper; first | (rw [if_pos (by decide +kernel)]; kernel_rfl) | (rw [if_neg (by decide +kernel)]; exact ⟨rfl, rfl⟩))
    (fun os started H enc _ => lifted os started H enc)

theorem proved : Rows.AsmBackCardSaid :=
  Claim7.holds_tied_plain_at .later [] [.data, .data, .data, .data, .sentinel, .sentinel, .pinned] true Rows.asmBackCard.stood.harness true
    said (fun _ h => by cases h) (by kernel_rfl) (fun _ h => by cases h) asmBack_row_tie rfl ⟨rfl, rfl⟩ (by kernel_rfl) rfl
    (fun f fn hf hfn => by
      obtain rfl : f = 4 := Option.some.inj ((show Tryd.prog.funcNamed "warrener/warrenerlaw13.AsmBack" = some 4 by kernel_rfl).symm.trans hf) |>.symm
      obtain rfl : fn = Tryd.f4 := (Option.some.inj (Tryd.func4.symm.trans hfn)).symm
      exact ⟨by kernel_rfl, fun j t ht => by
        have hm : t ∈ Tryd.f4.params := Array.mem_of_getElem? ht
        have hall : (Tryd.f4.params.all fun u => !Tryd.prog.wantsStandIn u) = true := by kernel_rfl
        have := Array.all_eq_true_iff_forall_mem.1 hall t hm
        exact (show Tryd.prog.wantsStandIn t = false by simpa using this)⟩)
    (by kernel_rfl)
end
end Go.Proofs.YtjpddfnkamahfaaDoor.asmBack
