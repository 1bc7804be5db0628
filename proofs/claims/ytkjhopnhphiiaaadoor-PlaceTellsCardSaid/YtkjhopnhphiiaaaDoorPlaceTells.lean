/-
  PlaceTells answers true, whatever the place and the program are. Condition: the three tables that the row lists lie as their initialisers lay them.
-/
import Derived.Test.YtkjhopnhphiiaaaDoorPlaceLive
import Derived.Test.YtkjhopnhphiiaaaDoorPlaceRef2
import Derived.Test.YtkjhopnhphiiaaaDoorRow
import Derived.Test.YtkjhopnhphiiaaaDoorOpenRows
import Derived.BigQuiet
import Derived.Deep.DeepCutAuto
import Derived.Deep.CutBlock
import Derived.Test.YtkjhopnhphiiaaaDoorDoor
import Derived.Test.YtkjhopnhphiiaaaDoorOpen
import Derived.Test.YtkjhopnhphiiaaaDoorCards
import Derived.Test.YtkjhopnhphiiaaaDoorTie
set_option linter.unusedVariables false
namespace Go.Proofs.YtkjhopnhphiiaaaDoor.placeTells
open Go.RowKit Go.Sort Go.Proofs.YtkjhopnhphiiaaaDoor.Own Go.Proofs.YtkjhopnhphiiaaaDoor.Line Go.Proofs.YtkjhopnhphiiaaaDoor.Calm

theorem min_clamp (n : Nat) : clampI ((min n 7 : Nat) : Int) 0 4 = clampI n 0 4 := by unfold clampI; omega

set_option maxRecDepth 100000 in
set_option maxHeartbeats 8000000 in
theorem walk3 (w : World) (hT : Door.Tabs w) (k i j r c s : Int) (ao : Option Addr) (n cap : Nat) (hn : n ≤ cap) (hm : cap ≤ maxLen) (hao : 0 < n → ∃ g o, ao = some ⟨g, o, none⟩) :
    Calls Tryd.prog 3 #[.agg #[.int .i64 k, .int .i64 i, .int .i64 j], .agg #[.int .i64 r, .int .i64 c, .int .i64 s, .slice ao n cap]] w fun e w' => e = .returned (.bool true) ∧ Below w.heap.size w w' := by
  obtain ⟨R, hR, bR⟩ := clamp_nat r 4
  obtain ⟨C, hC, bC⟩ := clamp_nat c 6
  obtain ⟨S, hS, bS⟩ := clamp_nat s 2
  obtain ⟨T, hT4, bT⟩ := clamp_nat (n : Int) 4
  have hT5 : clampI ((min n 7 : Nat) : Int) 0 4 = T := by rw [min_clamp]; exact hT4
  have hn7 : min n 7 ≤ cap := by omega
  have c1 : ∀ w, Calls Tryd.prog 9 #[.agg #[.int .i64 k, .int .i64 i, .int .i64 j], .agg #[.int .i64 r, .int .i64 c, .int .i64 s, .slice ao (min n 7) cap]] w fun e w' => e = .returned (.bool (isPl R C S T (k, i, j))) ∧ Kept No w w' := fun w => is_is (k, i, j) r c s R C S T hR hC hS bR bC bS bT ao (min n 7) cap hn7 hm hT5 w
  have c2 : ∀ w, Calls Tryd.prog 10 #[.agg #[.int .i64 k, .int .i64 i, .int .i64 j], .agg #[.int .i64 r, .int .i64 c, .int .i64 s, .slice ao (min n 7) cap]] w fun e w' => e = .returned (.bool (isPl R C S T (k, i, j))) ∧ Kept No w w' := fun w => refis_is k i j r c s R C S T hR hC hS ao (min n 7) cap hn7 hm hT5 w
  have c3 : ∀ w, Calls Tryd.prog 8 #[.agg #[.int .i64 r, .int .i64 c, .int .i64 s, .slice ao n cap]] w fun e w' => e = .returned (.agg #[.int .i64 r, .int .i64 c, .int .i64 s, .slice ao (min n 7) cap]) ∧ Kept No w w' := fun w => few_is r c s ao n cap hn hm hao w
  have c4 : ∀ w, Calls Tryd.prog 11 #[.agg #[.int .i64 k, .int .i64 i, .int .i64 j]] w fun e w' => e = .returned (.bool (holdsB k)) ∧ Kept No w w' := fun w => holds_is k i j w
  obtain ⟨b, hb⟩ : ∃ b, isPl R C S T (k, i, j) = b := ⟨_, rfl⟩
  obtain ⟨n7, hn7'⟩ : ∃ m, min n 7 = m := ⟨_, rfl⟩
  obtain ⟨hd, hhd⟩ : ∃ b, holdsB k = b := ⟨_, rfl⟩
  rw [hb, hn7'] at c1 c2
  rw [hn7'] at c3
  rw [hhd] at c4
  unfold holdsB at hhd
  have C1 := Lib.hid c1
  have C2 := Lib.hid c2
  have C3 := Lib.hid c3
  have C4 := Lib.hid c4
  have HD := Lib.hid hhd
  have hbx := (Box.new w #[.int .i64 k, .int .i64 i, .int .i64 j] 23).alloc (.cells #[.int .i64 r, .int .i64 c, .int .i64 s, .slice ao n cap] 26)
  have hby := Box.new (w.alloc (.cells #[.int .i64 k, .int .i64 i, .int .i64 j] 23)) #[.int .i64 r, .int .i64 c, .int .i64 s, .slice ao n cap] 26
  have hk : Kept No w ((w.alloc (.cells #[.int .i64 k, .int .i64 i, .int .i64 j] 23)).alloc (.cells #[.int .i64 r, .int .i64 c, .int .i64 s, .slice ao n cap] 26)) := ((Kept.refl _ _).alloc _).alloc _
  simp only [World.size_alloc] at hby
  have HX := Lib.hid hbx
  have HY := Lib.hid hby
  have HK := Lib.hid hk
  have HT := Lib.hid (hT.kept hk)
  clear hbx hby hk hT c1 c2 c3 c4 hb hhd hn7' hn7 hR hC hS hT4 hT5 hao
  go_enter Tryd.func3, Tryd.ntmps3
  go_wp2_with fail
  refine (alive_is _ HT.out).mono ?_
  rintro e w1 ⟨rfl, k1⟩
  have hx1 := HX.out.kept k1 id
  have hy1 := HY.out.kept k1 id
  have hk1 := HK.out.trans k1 (fun _ _ f => f)
  have d0 : w1.cell? ⟨w.heap.size + 1, 0, none⟩ = some (.int .i64 r) := hy1.cell 0
  have d1 : w1.cell? ⟨w.heap.size + 1, 1, none⟩ = some (.int .i64 c) := hy1.cell 1
  have d2 : w1.cell? ⟨w.heap.size + 1, 2, none⟩ = some (.int .i64 s) := hy1.cell 2
  have d3 : w1.cell? ⟨w.heap.size + 1, 3, none⟩ = some (.slice ao n cap) := hy1.cell 3
  clear k1 HX HY HK HT
  go_wp2_with fail
  refine (C3.out _).mono ?_
  rintro e w2 ⟨rfl, k2⟩
  have hx2 := hx1.kept k2 id
  have hy2 := hy1.kept k2 id
  have hk2 := hk1.trans k2 (fun _ _ f => f)
  clear k2 hx1 hy1 hk1 d0 d1 d2 d3
  have hb3 : Box (w2.setRow (w.heap.size + 1) #[.int .i64 r, .int .i64 c, .int .i64 s, .slice ao n7 cap]) (w.heap.size + 1) #[.int .i64 r, .int .i64 c, .int .i64 s, .slice ao n7 cap] 26 := hy2.row
  have hx3 : Box (w2.setRow (w.heap.size + 1) #[.int .i64 r, .int .i64 c, .int .i64 s, .slice ao n7 cap]) w.heap.size #[.int .i64 k, .int .i64 i, .int .i64 j] 23 := hx2.row_other (by omega)
  have hk3 : Kept No w (w2.setRow (w.heap.size + 1) #[.int .i64 r, .int .i64 c, .int .i64 s, .slice ao n7 cap]) := row_kept hk2 (by omega) _
  go_upto_region 4 with (refine wpList_store_rowTo rfl 26 _ _ rfl rfl (w.heap.size + 1) #[.int .i64 r, .int .i64 c, .int .i64 s, .slice ao n7 cap] (by kernel_rfl) (by kernel_rfl) 26 _ hy2 (by kernel_rfl) (by kernel_rfl) (by kernel_rfl) ?_)
  generalize w2.setRow (w.heap.size + 1) #[.int .i64 r, .int .i64 c, .int .i64 s, .slice ao n7 cap] = w3 at *
  obtain ⟨e0, e1, e2⟩ := KW.box3 hx3
  obtain ⟨g0, g1, g2, g3⟩ := KW.box4 hb3
  clear hy2 hx2 hk2 hx3 hb3
  have hbb : (b == b) = true := by simp
  have hc : (k = 1 ∧ hd = true) ∨ (k = 3 ∧ hd = true) ∨ ((k == 1) = false ∧ (k == 3) = false ∧ decide (5 ≤ k) = false ∧ hd = false) ∨ ((k == 1) = false ∧ (k == 3) = false ∧ 5 ≤ k ∧ decide (k ≤ 8) = false ∧ hd = false) ∨ ((k == 1) = false ∧ (k == 3) = false ∧ 5 ≤ k ∧ k ≤ 8 ∧ hd = true) := by
    rw [← HD.out]
    by_cases q1 : k = 1
    · left; simp [q1]
    · by_cases q3 : k = 3
      · right; left; simp [q3]
      · by_cases q5 : 5 ≤ k
        · by_cases q8 : k ≤ 8
          · right; right; right; right; simp [q1, q3, q5, q8]
          · right; right; right; left; simp [q1, q3, q5, q8]
        · right; right; left; simp [q1, q3, q5]
  clear HD
  rcases hc with ⟨rfl, rfl⟩ | ⟨rfl, rfl⟩ | ⟨q1, q3, q5, rfl⟩ | ⟨q1, q3, q5, q8, rfl⟩ | ⟨q1, q3, q5, q8, rfl⟩
  all_goals
    refine wp_region_calm (by kernel_rfl) (by kernel_rfl) ?_
    repeat (go_big_quiet_step (first | (go_at_call 9; with_reducible exact calls_of _ (C1.out _)) | (go_at_call 10; with_reducible exact calls_of _ (C2.out _)) | (go_at_call 11; with_reducible exact calls_of _ (C4.out _))))
    refine wpQuiet_nil ?_
    rintro _ ⟨p, rfl⟩
    go_wp2_with fail
    go_ret
    exact ⟨rfl, (hk3.trans p.h (fun _ _ f => f)).below (Nat.le_refl _) (fun _ _ => id)⟩

theorem walk (w : World) (hT : Door.Tabs w) (xs : List Int) (hl : xs.length = Tryd.prog.cellsOf 23) (wf : ∀ z ∈ xs, (Lit.int .i64 z).wf = true)
    (r c s : Int) (u : Value) (rows : List Open.RowI) (wr : (Lit.int .i64 r).wf = true) (wc : (Lit.int .i64 c).wf = true) (ws : (Lit.int .i64 s).wf = true) (rd : Rd w 1 u rows.length (rows.map (·.v))) (rr : ∀ q ∈ rows, Rd w 5 q.v q.n (vals q.zs) ∧ ∀ z ∈ q.zs, (Lit.int .i64 z).wf = true) :
    Calls Tryd.prog 3 #[.agg (vals xs).toArray, .agg #[.int .i64 r, .int .i64 c, .int .i64 s, u]] w fun e w' => e = .returned (.bool true) ∧ Below w.heap.size w w' := by
  have h3 : xs.length = 3 := hl.trans (by kernel_rfl)
  obtain ⟨_, ao, cap, rfl, hn, hm, _, hR⟩ := rd
  match xs, h3, wf with
  | [k, i, j], _, wf => exact walk3 w hT k i j r c s ao rows.length cap hn hm (fun h => by obtain ⟨g, o, e, _⟩ := hR h; exact ⟨g, o, e⟩)

section
open Go.ChangeShapes Go.WideShapes Go.ChangeAt Go.ChangeMaps Go.RowKit Go.Proofs.YtkjhopnhphiiaaaDoor.Own Go.Proofs.YtkjhopnhphiiaaaDoor.Open Go.Proofs.YtkjhopnhphiiaaaDoor.Door

theorem own : ownKnob Tryd.prog.godebug = none := by kernel_rfl
theorem laidOut : laidOutB Tryd.prog = true := by kernel_rfl

theorem door_met (os : Os) (args : Array Value) : laidMetH Tryd.prog Rows.placeTellsRow.laid ((World.doorLaid Tryd.prog 24 os).forCall (fun _ _ => 0) ⟨#[], args, []⟩).memory :=
  laidMetH_of_parts3 (fuel := 8) (laidMet_of_run' 8 (by kernel_rfl) (by kernel_rfl)) (by kernel_rfl) (by kernel_rfl)

set_option maxRecDepth 100000 in
theorem lifted (os : Os) (started : os.Started) (H : Type) (enc : TypeId × Value → H) :
    ReturnsInHanded {} Tryd.checked os 3 .any (fun w args => (Rows.placeTellsSpec.pre enc Tryd.prog Tryd.f3 [] false w args ∧ laidMetH Tryd.prog Rows.placeTellsRow.laid w) ∧ sizedMet enc Tryd.prog Tryd.f3 (OpenSpec.ofChange Rows.placeTellsSpec) false w args) (Rows.placeTellsSpec.post enc Tryd.prog Tryd.f3 false true false false) := by
  refine returnsInHanded_of_change_and (C := Tryd.checked) (X := fun w _ => laidMetH Tryd.prog Rows.placeTellsRow.laid w) (fun _ _ _ hh h => h.of_heap hh) own started (by kernel_rfl) Tryd.func3
    (ChangeSpec.witness_shaped (enc := enc) (C := Tryd.checked) (os := os) (X := fun w _ => laidMetH Tryd.prog Rows.placeTellsRow.laid w) false (World.doorLaid Tryd.prog 24 os) #[.agg #[.int .i64 0, .int .i64 0, .int .i64 0], .agg #[.int .i64 0, .int .i64 0, .int .i64 0, .slice none 0 0]] 8 rfl (World.shaped_of_RefB (by kernel_rfl) (by kernel_rfl)) (by kernel_rfl) (by kernel_rfl) (by kernel_rfl) (door_met os _)) ?_
  intro W base args ds gs before hval0 hW _ _ hL _
  have hval : ∀ (j : Nat) t v, Tryd.f3.params[j]? = some t → args[j]? = some v → Value.okWide Tryd.prog W .any base t v := hval0
  have hW' := hW
  obtain ⟨p, q, hA0, hV, rfl, hfz, hnd⟩ := hW
  have hA : DataW.TrodAll enc Tryd.prog W 0 (fun _ => true) true Tryd.f3.params.toList args.toList ds p := hA0
  rw [Tryd.params3] at hA hval
  have hA1 := hA
  obtain ⟨v0, vs0, d0, ds0, p0, q0, hargs, rfl, rfl, h0, r0⟩ := trodAll_cons hA
  obtain ⟨v1, vs1, d1, ds1, p1, q1, rfl, rfl, rfl, h1, r1⟩ := trodAll_cons r0
  obtain ⟨rfl, rfl, rfl⟩ := trodAll_nil r1
  obtain rfl : args = #[v0, v1] := by cases args; simp_all
  obtain ⟨rfl, rfl⟩ := trodVars_none hV
  obtain ⟨z0, rfl, l0, wf0⟩ := open_agg_i64 Tryd.underlying23 (by kernel_rfl) (hval 0 23 v0 rfl rfl) h0
  obtain ⟨r1, c1, s1, u1, rows1, rfl, wr1, wc1, ws1, rd1, rr1⟩ := open_prog 5 Tryd.underlying26 (by kernel_rfl) (by kernel_rfl) (by kernel_rfl) (by kernel_rfl) (by kernel_rfl) Tryd.underlying3 Tryd.underlying3 Tryd.underlying3 Tryd.underlying24 Tryd.underlying39 (by kernel_rfl) (by kernel_rfl) (by decide) (by kernel_rfl) (hval 1 26 v1 rfl rfl) h1
  clear hA0 hval0
  simp only [List.append_nil] at hW' hA1
  refine (walk W (tabs_of hL) z0 l0 wf0 r1 c1 s1 u1 rows1 wr1 wc1 ws1 rd1 rr1).mono fun e W' ⟨he, hb⟩ => ?_
  subst he
  exact ⟨_, rfl, ⟨_, _, _, [], _, [], hW', trodAll_mk1 (shut_bool Tryd.underlying4 _), below_args laidOut hb (by kernel_rfl) hA1 (fun x hx => by simpa using hW'.lt x hx), rfl, hb.frame _, fun h => by cases h⟩⟩

theorem said : Rows.PlaceTellsSaid :=
  OpenClaim.holds_of_wide 3 Tryd.f3 rfl rfl rfl rfl rfl rfl rfl ⟨rfl, rfl, rfl, rfl, rfl⟩ rfl rfl rfl rfl rfl (by kernel_rfl) Tryd.func3 (by kernel_rfl)
    (of_decide_eq_true (by kernel_rfl)) (by unfold Func.isWrapper; first | (rw [if_pos (by decide +kernel)]; kernel_rfl) | (rw [if_neg (by decide +kernel)]; exact ⟨rfl, rfl⟩))
    (fun os started H enc _ => lifted os started H enc)

theorem proved : Rows.PlaceTellsCardSaid :=
  Claim7.holds_tied_plain_at .later [] [.data, .data, .data] true Rows.placeTellsCard.stood.harness false
    said (fun _ h => by cases h) (by kernel_rfl) (fun _ h => by cases h) placeTells_row_tie rfl ⟨rfl, rfl⟩ (by kernel_rfl) rfl
    (fun f fn hf hfn => by
      obtain rfl : f = 3 := Option.some.inj ((show Tryd.prog.funcNamed "warrener/warrenerlaw18.PlaceTells" = some 3 by kernel_rfl).symm.trans hf) |>.symm
      obtain rfl : fn = Tryd.f3 := (Option.some.inj (Tryd.func3.symm.trans hfn)).symm
      exact ⟨by kernel_rfl, fun j t ht => by
        have hm : t ∈ Tryd.f3.params := Array.mem_of_getElem? ht
        have hall : (Tryd.f3.params.all fun u => !Tryd.prog.wantsStandIn u) = true := by kernel_rfl
        have := Array.all_eq_true_iff_forall_mem.1 hall t hm
        exact (show Tryd.prog.wantsStandIn t = false by simpa using this)⟩)
    (by kernel_rfl)
end
end Go.Proofs.YtkjhopnhphiiaaaDoor.placeTells
