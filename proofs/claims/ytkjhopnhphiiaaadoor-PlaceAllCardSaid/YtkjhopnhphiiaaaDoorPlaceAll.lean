/-
  PlaceAll answers true, whatever the program and the place are. Condition: the three tables that the row lists lie as their initialisers lay them.
-/
import Derived.Test.YtkjhopnhphiiaaaDoorPlaceLive
import Derived.Test.YtkjhopnhphiiaaaDoorPlaceRef2
import Derived.Test.YtkjhopnhphiiaaaDoorRow
import Derived.Test.YtkjhopnhphiiaaaDoorOpenRows
import Derived.BigQuiet
import Derived.Deep.DeepCutAuto
import Derived.Deep.CutBlock
import Derived.Test.YtkjhopnhphiiaaaDoorDoor
import Derived.Test.YtkjhopnhphiiaaaDoorOpen
import Derived.Test.YtkjhopnhphiiaaaDoorCards
import Derived.Test.YtkjhopnhphiiaaaDoorTie
set_option linter.unusedVariables false
namespace Go.Proofs.YtkjhopnhphiiaaaDoor.placeAll
open Go.RowKit Go.Sort Go.Proofs.YtkjhopnhphiiaaaDoor.Own Go.Proofs.YtkjhopnhphiiaaaDoor.Line Go.Proofs.YtkjhopnhphiiaaaDoor.Calm

theorem min_clamp (n : Nat) : clampI ((min n 7 : Nat) : Int) 0 4 = clampI n 0 4 := by unfold clampI; omega

set_option maxRecDepth 100000 in
set_option maxHeartbeats 8000000 in
theorem walk3 (w : World) (hT : Door.Tabs w) (x : Pl) (r c s : Int) (ao : Option Addr) (n cap : Nat) (hn : n ≤ cap) (hm : cap ≤ maxLen) (hao : 0 < n → ∃ g o, ao = some ⟨g, o, none⟩) :
    Calls Tryd.prog 4 #[.agg #[.int .i64 r, .int .i64 c, .int .i64 s, .slice ao n cap], .agg #[.int .i64 x.1, .int .i64 x.2.1, .int .i64 x.2.2]] w fun e w' => e = .returned (.bool true) ∧ Below w.heap.size w w' := by
  obtain ⟨R, hR, bR⟩ := clamp_nat r 4
  obtain ⟨C, hC, bC⟩ := clamp_nat c 6
  obtain ⟨S, hS, bS⟩ := clamp_nat s 2
  obtain ⟨T, hT4, bT⟩ := clamp_nat (n : Int) 4
  have hT5 : clampI ((min n 7 : Nat) : Int) 0 4 = T := by rw [min_clamp]; exact hT4
  have hn7 : min n 7 ≤ cap := by omega
  have c1 : ∀ w, Calls Tryd.prog 12 #[.agg #[.int .i64 r, .int .i64 c, .int .i64 s, .slice ao (min n 7) cap]] w fun e w' => ∃ v, e = .returned v ∧ Seg w' w.heap.size 23 3 v (placesL R C S T).length (plV (placesL R C S T)) ∧ Kept No w w' := fun w => all_is r c s R C S T hR hC hS bR bC bS bT ao (min n 7) cap hn7 hm hT5 w
  have c2 : ∀ (y : Pl) w, Calls Tryd.prog 10 #[.agg #[.int .i64 y.1, .int .i64 y.2.1, .int .i64 y.2.2], .agg #[.int .i64 r, .int .i64 c, .int .i64 s, .slice ao (min n 7) cap]] w fun e w' => e = .returned (.bool (isPl R C S T y)) ∧ Kept No w w' := fun y w => refis_is y.1 y.2.1 y.2.2 r c s R C S T hR hC hS ao (min n 7) cap hn7 hm hT5 w
  have c3 : ∀ w, Calls Tryd.prog 8 #[.agg #[.int .i64 r, .int .i64 c, .int .i64 s, .slice ao n cap]] w fun e w' => e = .returned (.agg #[.int .i64 r, .int .i64 c, .int .i64 s, .slice ao (min n 7) cap]) ∧ Kept No w w' := fun w => few_is r c s ao n cap hn hm hao w
  have c4 : ∀ (a2 : Option Addr) (m cc : Nat), m = (placesL R C S T).length → ∀ w, Calls Tryd.prog 15 #[.slice a2 m cc, .agg #[.int .i64 r, .int .i64 c, .int .i64 s, .slice ao (min n 7) cap]] w fun e w' => e = .returned (.bool true) ∧ Kept No w w' := fun a2 m cc h w => sizes_is r c s R C S T hR hC hS bR bC bS bT ao (min n 7) cap hn7 hm hT5 a2 m cc (by rw [h, places_len]) w
  obtain ⟨n7, hn7'⟩ : ∃ m, min n 7 = m := ⟨_, rfl⟩
  rw [hn7'] at c1 c2 c3 c4
  have hlen : (placesL R C S T).length ≤ 60 := by
    rw [places_len]
    have : T * S ≤ 4 * 2 := Nat.mul_le_mul bT bS
    omega
  have hsort := places_sorted R C S T bR bC bS bT
  have hmem := mem_places R C S T
  obtain ⟨L, hL⟩ : ∃ L, placesL R C S T = L := ⟨_, rfl⟩
  rw [hL] at c1 hlen hsort
  have hmem2 : ∀ y, y ∈ L ↔ isPl R C S T y = true := fun y => by rw [← hL]; exact hmem y
  rw [hL] at c4
  obtain ⟨N, hN⟩ : ∃ N, L.length = N := ⟨_, rfl⟩
  rw [hN] at c1 c4 hlen
  have C1 := Lib.hid c1
  have C2 := Lib.hid c2
  have C3 := Lib.hid c3
  have C4 := Lib.hid c4
  have HS := Lib.hid hsort
  have HM := Lib.hid hmem2
  have HN := Lib.hid hN
  have hby := (Box.new w #[.int .i64 r, .int .i64 c, .int .i64 s, .slice ao n cap] 26).alloc (.cells #[.int .i64 x.1, .int .i64 x.2.1, .int .i64 x.2.2] 23)
  have hbx := Box.new (w.alloc (.cells #[.int .i64 r, .int .i64 c, .int .i64 s, .slice ao n cap] 26)) #[.int .i64 x.1, .int .i64 x.2.1, .int .i64 x.2.2] 23
  have hk : Kept No w ((w.alloc (.cells #[.int .i64 r, .int .i64 c, .int .i64 s, .slice ao n cap] 26)).alloc (.cells #[.int .i64 x.1, .int .i64 x.2.1, .int .i64 x.2.2] 23)) := ((Kept.refl _ _).alloc _).alloc _
  simp only [World.size_alloc] at hbx
  have HX := Lib.hid hbx
  have HY := Lib.hid hby
  have HK := Lib.hid hk
  have HT := Lib.hid (hT.kept hk)
  clear hbx hby hk hT c1 c2 c3 c4 hn7' hn7 hR hC hS hT4 hT5 hao hsort hmem hmem2 hL hN
  go_enter Tryd.func4, Tryd.ntmps4
  go_wp2_with fail
  refine (alive_is _ HT.out).mono ?_
  rintro e w1 ⟨rfl, k1⟩
  have hx1 := HX.out.kept k1 id
  have hy1 := HY.out.kept k1 id
  have hk1 := HK.out.trans k1 (fun _ _ f => f)
  have d0 : w1.cell? ⟨w.heap.size, 0, none⟩ = some (.int .i64 r) := hy1.cell 0
  have d1 : w1.cell? ⟨w.heap.size, 1, none⟩ = some (.int .i64 c) := hy1.cell 1
  have d2 : w1.cell? ⟨w.heap.size, 2, none⟩ = some (.int .i64 s) := hy1.cell 2
  have d3 : w1.cell? ⟨w.heap.size, 3, none⟩ = some (.slice ao n cap) := hy1.cell 3
  clear k1 HX HY HK HT
  go_wp2_with fail
  refine (C3.out _).mono ?_
  rintro e w2 ⟨rfl, k2⟩
  have hx2 := hx1.kept k2 id
  have hy2 := hy1.kept k2 id
  have hk2 := hk1.trans k2 (fun _ _ f => f)
  clear k2 hx1 hy1 hk1 d0 d1 d2 d3
  have hy3 : Box (w2.setRow w.heap.size #[.int .i64 r, .int .i64 c, .int .i64 s, .slice ao n7 cap]) w.heap.size #[.int .i64 r, .int .i64 c, .int .i64 s, .slice ao n7 cap] 26 := hy2.row
  have hx3 : Box (w2.setRow w.heap.size #[.int .i64 r, .int .i64 c, .int .i64 s, .slice ao n7 cap]) (w.heap.size + 1) #[.int .i64 x.1, .int .i64 x.2.1, .int .i64 x.2.2] 23 := hx2.row_other (by omega)
  have hk3 : Kept No w (w2.setRow w.heap.size #[.int .i64 r, .int .i64 c, .int .i64 s, .slice ao n7 cap]) := row_kept hk2 (by omega) _
  go_upto_region 4 with (refine wpList_store_rowTo rfl 26 _ _ rfl rfl w.heap.size #[.int .i64 r, .int .i64 c, .int .i64 s, .slice ao n7 cap] (by kernel_rfl) (by kernel_rfl) 26 _ hy2 (by kernel_rfl) (by kernel_rfl) (by kernel_rfl) ?_)
  generalize w2.setRow w.heap.size #[.int .i64 r, .int .i64 c, .int .i64 s, .slice ao n7 cap] = w3 at *
  have e0 : w3.cell? ⟨w.heap.size, 0, none⟩ = some (.int .i64 r) := hy3.cell 0
  have e1 : w3.cell? ⟨w.heap.size, 1, none⟩ = some (.int .i64 c) := hy3.cell 1
  have e2 : w3.cell? ⟨w.heap.size, 2, none⟩ = some (.int .i64 s) := hy3.cell 2
  have e3 : w3.cell? ⟨w.heap.size, 3, none⟩ = some (.slice ao n7 cap) := hy3.cell 3
  clear hy2 hx2 hk2
  go_wp2_with fail
  refine (C1.out _).mono ?_
  rintro e w4 ⟨v, rfl, hs4, k4⟩
  have hx4 := hx3.kept k4 id
  have hy4 := hy3.kept k4 id
  have hk4 := hk3.trans k4 (fun _ _ f => f)
  have hr4 := hs4.rd
  clear k4 hx3 hy3 hk3 hs4 e0 e1 e2 e3
  obtain ⟨a2, cc, rfl, hNc, hcm⟩ : ∃ a2 cc, v = .slice a2 N cc ∧ N ≤ cc ∧ cc ≤ maxLen := by obtain ⟨_, a, b, h1, h2, h3, _⟩ := hr4; exact ⟨a, b, h1, h2, h3⟩
  have hcell : 0 < N → ∃ g o, a2 = some ⟨g, o, none⟩ ∧ g < w4.heap.size ∧ ∀ j u, (plV L)[j]? = some u → w4.cell? ⟨g, o + j, none⟩ = some u := by
    obtain ⟨_, a, b, h1, _, _, _, h4⟩ := hr4
    cases h1
    exact h4
  have HR := Lib.hid hr4
  have HC := Lib.hid hcell
  clear hr4 hcell
  unfold maxLen at hcm
  go_wp2_with fail
  go_loopw [6] (fun i wr => ∃ k : Nat, k ≤ N ∧ i = .int .i64 k ∧ Kept No w4 wr) (fun i _ => N - (intOf i).toNat)
  case atStart => exact ⟨0, by omega, rfl, Kept.refl _ _⟩
  case round =>
    obtain ⟨k, hk, rfl, hK⟩ := hrel
    have hxw := hx4.kept hK id
    have hyw := hy4.kept hK id
    have hkw := hk4.trans hK (fun _ _ f => f)
    obtain ⟨b0, b1, b2⟩ := KW.box3 hxw
    obtain ⟨g0, g1, g2, g3⟩ := KW.box4 hyw
    by_cases hlt : k < N
    · obtain ⟨g, o, rfl, hg, hcl⟩ := HC.out (by omega)
      obtain ⟨y, hy⟩ : ∃ y, L[k]? = some y := ⟨_, List.getElem?_eq_getElem (by have := HN.out; omega)⟩
      obtain ⟨p1, p2, p3⟩ := plV_at L k y hy
      have q1 : ∀ p : KW wr, p.w.cell? ⟨g, o + k * 3, none⟩ = some (.int .i64 y.1) := fun p => ((hK.trans p.h (fun _ _ f => f)).cell (p := ⟨g, o + k * 3, none⟩) hg id).trans (hcl _ _ p1)
      have q2 : ∀ p : KW wr, p.w.cell? ⟨g, o + k * 3 + 1, none⟩ = some (.int .i64 y.2.1) := fun p => ((hK.trans p.h (fun _ _ f => f)).cell (p := ⟨g, o + k * 3 + 1, none⟩) hg id).trans (hcl _ _ p2)
      have q3 : ∀ p : KW wr, p.w.cell? ⟨g, o + k * 3 + 2, none⟩ = some (.int .i64 y.2.2) := fun p => ((hK.trans p.h (fun _ _ f => f)).cell (p := ⟨g, o + k * 3 + 2, none⟩) hg id).trans (hcl _ _ p3)
      have his : isPl R C S T y = true := (HM.out y).1 (List.mem_of_getElem? hy)
      have I1 : Hid (∀ w, Calls Tryd.prog 10 #[.agg #[.int .i64 y.1, .int .i64 y.2.1, .int .i64 y.2.2], .agg #[.int .i64 r, .int .i64 c, .int .i64 s, .slice ao n7 cap]] w fun e w' => e = .returned (.bool true) ∧ Kept No w w') := Lib.hid (fun w => by have := C2.out y w; rwa [his] at this)
      have i0 : (0 : Int) ≤ (k : Int) := by omega
      have i1 : (k : Int) < (N : Int) := by omega
      have HL := Lib.hid hy
      have HCL := Lib.hid hcl
      clear p1 p2 p3 his hy hcl
      by_cases hk0 : k = 0
      · subst hk0
        simp only [Nat.zero_mul, Nat.add_zero] at q1 q2 q3
        simp only [Int.natCast_zero]
        have i2 : (0 : Int) < (N : Int) := i1
        have i3 : 0 < N := hlt
        go_upto_region 8 with fail
        refine wp_region_calm (by kernel_rfl) (by kernel_rfl) ?_
        repeat (go_big_quiet_step ((go_at_call 10; with_reducible exact calls_of _ (I1.out _))))
        refine wpQuiet_nil ?_
        rintro _ ⟨p, rfl⟩
        have hK2 := hK.trans p.h (fun _ _ f => f)
        go_wp2_with fail
        go_roundw
        case rel => exact ⟨1, by omega, rfl, hK2⟩
        case measure => simp [intOf]; omega
      · obtain ⟨m, rfl⟩ : ∃ m, k = m + 1 := ⟨k - 1, by omega⟩
        obtain ⟨z, hz⟩ : ∃ z, L[m]? = some z := ⟨_, List.getElem?_eq_getElem (by have := HN.out; omega)⟩
        obtain ⟨p1, p2, p3⟩ := plV_at L m z hz
        have r1 : ∀ p : KW wr, p.w.cell? ⟨g, o + m * 3, none⟩ = some (.int .i64 z.1) := fun p => ((hK.trans p.h (fun _ _ f => f)).cell (p := ⟨g, o + m * 3, none⟩) hg id).trans (HCL.out _ _ p1)
        have r2 : ∀ p : KW wr, p.w.cell? ⟨g, o + m * 3 + 1, none⟩ = some (.int .i64 z.2.1) := fun p => ((hK.trans p.h (fun _ _ f => f)).cell (p := ⟨g, o + m * 3 + 1, none⟩) hg id).trans (HCL.out _ _ p2)
        have r3 : ∀ p : KW wr, p.w.cell? ⟨g, o + m * 3 + 2, none⟩ = some (.int .i64 z.2.2) := fun p => ((hK.trans p.h (fun _ _ f => f)).cell (p := ⟨g, o + m * 3 + 2, none⟩) hg id).trans (HCL.out _ _ p3)
        have hlz := sorted_at L m z y HS.out hz HL.out
        have I2 : Hid (∀ w, Calls Tryd.prog 13 #[.agg #[.int .i64 z.1, .int .i64 z.2.1, .int .i64 z.2.2], .agg #[.int .i64 y.1, .int .i64 y.2.1, .int .i64 y.2.2]] w fun e w' => e = .returned (.bool true) ∧ Kept No w w') := Lib.hid (fun w => by have := refless_is z.1 z.2.1 z.2.2 y.1 y.2.1 y.2.2 w; rwa [hlz] at this)
        have i2 : (0 : Int) < (m : Int) + 1 := by omega
        have i4 : (0 : Int) ≤ (m : Int) := by omega
        have i5 : (m : Int) < (N : Int) := by omega
        have i6 : m < N := by omega
        have i3 : 0 < m + 1 := by omega
        simp only [Int.natCast_add, Int.natCast_one] at i0 i1 ⊢
        have w1 : IntKind.i64.wrap ((m : Int) + 1 - 1) = (m : Int) := by rw [IntKind.wrap_i64]; omega
        clear p1 p2 p3 hz hlz hk0
        go_upto_region 8 with fail
        refine wp_region_calm (by kernel_rfl) (by kernel_rfl) ?_
        repeat (go_big_quiet_step (first | (go_at_call 10; with_reducible exact calls_of _ (I1.out _)) | (go_at_call 13; with_reducible exact calls_of _ (I2.out _))))
        refine wpQuiet_nil ?_
        rintro _ ⟨p, rfl⟩
        have hK2 := hK.trans p.h (fun _ _ f => f)
        go_wp2_with fail
        go_roundw
        case rel => exact ⟨m + 1 + 1, by omega, by go_num, hK2⟩
        case measure => simp [intOf]; omega
    · obtain rfl : k = N := by omega
      have hb : decide (x ∈ L) = isPl R C S T x := by
        have := HM.out x
        cases h : isPl R C S T x
        · rw [h] at this; simpa using this
        · rw [h] at this; simpa using this
      obtain ⟨bb, hbb⟩ : ∃ b, isPl R C S T x = b := ⟨_, rfl⟩
      have I1 : Hid (∀ w, Calls Tryd.prog 10 #[.agg #[.int .i64 x.1, .int .i64 x.2.1, .int .i64 x.2.2], .agg #[.int .i64 r, .int .i64 c, .int .i64 s, .slice ao n7 cap]] w fun e w' => e = .returned (.bool bb) ∧ Kept No w w') := Lib.hid (fun w => by have := C2.out x w; rwa [hbb] at this)
      have I2 : Hid (∀ p : KW wr, Calls Tryd.prog 14 #[.slice a2 k cc, .agg #[.int .i64 x.1, .int .i64 x.2.1, .int .i64 x.2.2]] p.w fun e w' => e = .returned (.bool bb) ∧ Kept No p.w w') := Lib.hid (fun p => by
        have := has_is p.w _ k L (HR.out.kept (hK.trans p.h (fun _ _ f => f)) (fun _ _ => id)) x
        rwa [hb, hbb] at this)
      have I3 := Lib.hid (C4.out a2 k cc rfl)
      have hbe : (bb == bb) = true := by simp
      clear hb hbb
      go_upto_region 10 with fail
      refine wp_region_calm (by kernel_rfl) (by kernel_rfl) ?_
      repeat (go_big_quiet_step (first | (go_at_call 14; with_reducible exact calls_of _ (I2.out _)) | (go_at_call 10; with_reducible exact calls_of _ (I1.out _)) | (go_at_call 15; with_reducible exact calls_of _ (I3.out _))))
      refine wpQuiet_nil ?_
      rintro _ ⟨p, rfl⟩
      go_wp2_with fail
      go_ret
      exact ⟨rfl, (hkw.trans p.h (fun _ _ f => f)).below (Nat.le_refl _) (fun _ _ => id)⟩

theorem walk (w : World) (hT : Door.Tabs w) (r c s : Int) (u : Value) (rows : List Open.RowI) (wr : (Lit.int .i64 r).wf = true) (wc : (Lit.int .i64 c).wf = true) (ws : (Lit.int .i64 s).wf = true) (rd : Rd w 1 u rows.length (rows.map (·.v))) (rr : ∀ q ∈ rows, Rd w 5 q.v q.n (vals q.zs) ∧ ∀ z ∈ q.zs, (Lit.int .i64 z).wf = true)
    (xs : List Int) (hl : xs.length = Tryd.prog.cellsOf 23) (wf : ∀ z ∈ xs, (Lit.int .i64 z).wf = true) :
    Calls Tryd.prog 4 #[.agg #[.int .i64 r, .int .i64 c, .int .i64 s, u], .agg (vals xs).toArray] w fun e w' => e = .returned (.bool true) ∧ Below w.heap.size w w' := by
  have h3 : xs.length = 3 := hl.trans (by kernel_rfl)
  obtain ⟨_, ao, cap, rfl, hn, hm, _, hR⟩ := rd
  match xs, h3, wf with
  | [k, i, j], _, wf => exact walk3 w hT (k, i, j) r c s ao rows.length cap hn hm (fun h => by obtain ⟨g, o, e, _⟩ := hR h; exact ⟨g, o, e⟩)

section
open Go.ChangeShapes Go.WideShapes Go.ChangeAt Go.ChangeMaps Go.RowKit Go.Proofs.YtkjhopnhphiiaaaDoor.Own Go.Proofs.YtkjhopnhphiiaaaDoor.Open Go.Proofs.YtkjhopnhphiiaaaDoor.Door

theorem own : ownKnob Tryd.prog.godebug = none := by kernel_rfl
theorem laidOut : laidOutB Tryd.prog = true := by kernel_rfl

theorem door_met (os : Os) (args : Array Value) : laidMetH Tryd.prog Rows.placeAllRow.laid ((World.doorLaid Tryd.prog 24 os).forCall (fun _ _ => 0) ⟨#[], args, []⟩).memory :=
  laidMetH_of_parts3 (fuel := 8) (laidMet_of_run' 8 (by kernel_rfl) (by kernel_rfl)) (by kernel_rfl) (by kernel_rfl)

set_option maxRecDepth 100000 in
theorem lifted (os : Os) (started : os.Started) (H : Type) (enc : TypeId × Value → H) :
    ReturnsInHanded {} Tryd.checked os 4 .any (fun w args => (Rows.placeAllSpec.pre enc Tryd.prog Tryd.f4 [] false w args ∧ laidMetH Tryd.prog Rows.placeAllRow.laid w) ∧ sizedMet enc Tryd.prog Tryd.f4 (OpenSpec.ofChange Rows.placeAllSpec) false w args) (Rows.placeAllSpec.post enc Tryd.prog Tryd.f4 false true false false) := by
  refine returnsInHanded_of_change_and (C := Tryd.checked) (X := fun w _ => laidMetH Tryd.prog Rows.placeAllRow.laid w) (fun _ _ _ hh h => h.of_heap hh) own started (by kernel_rfl) Tryd.func4
    (ChangeSpec.witness_shaped (enc := enc) (C := Tryd.checked) (os := os) (X := fun w _ => laidMetH Tryd.prog Rows.placeAllRow.laid w) false (World.doorLaid Tryd.prog 24 os) #[.agg #[.int .i64 0, .int .i64 0, .int .i64 0, .slice none 0 0], .agg #[.int .i64 0, .int .i64 0, .int .i64 0]] 8 rfl (World.shaped_of_RefB (by kernel_rfl) (by kernel_rfl)) (by kernel_rfl) (by kernel_rfl) (by kernel_rfl) (door_met os _)) ?_
  intro W base args ds gs before hval0 hW _ _ hL _
  have hval : ∀ (j : Nat) t v, Tryd.f4.params[j]? = some t → args[j]? = some v → Value.okWide Tryd.prog W .any base t v := hval0
  have hW' := hW
  obtain ⟨p, q, hA0, hV, rfl, hfz, hnd⟩ := hW
  have hA : DataW.TrodAll enc Tryd.prog W 0 (fun _ => true) true Tryd.f4.params.toList args.toList ds p := hA0
  rw [Tryd.params4] at hA hval
  have hA1 := hA
  obtain ⟨v0, vs0, d0, ds0, p0, q0, hargs, rfl, rfl, h0, r0⟩ := trodAll_cons hA
  obtain ⟨v1, vs1, d1, ds1, p1, q1, rfl, rfl, rfl, h1, r1⟩ := trodAll_cons r0
  obtain ⟨rfl, rfl, rfl⟩ := trodAll_nil r1
  obtain rfl : args = #[v0, v1] := by cases args; simp_all
  obtain ⟨rfl, rfl⟩ := trodVars_none hV
  obtain ⟨ga0, gb0, gc0, gu0, rows0, rfl, wga0, wgb0, wgc0, rdg0, rrg0⟩ := open_prog 5 Tryd.underlying26 (by kernel_rfl) (by kernel_rfl) (by kernel_rfl) (by kernel_rfl) (by kernel_rfl) Tryd.underlying3 Tryd.underlying3 Tryd.underlying3 Tryd.underlying24 Tryd.underlying39 (by kernel_rfl) (by kernel_rfl) (by decide) (by kernel_rfl) (hval 0 26 v0 rfl rfl) h0
  obtain ⟨z1, rfl, l1, wf1⟩ := open_agg_i64 Tryd.underlying23 (by kernel_rfl) (hval 1 23 v1 rfl rfl) h1
  clear hA0 hval0
  simp only [List.append_nil] at hW' hA1
  refine (walk W (tabs_of hL) ga0 gb0 gc0 gu0 rows0 wga0 wgb0 wgc0 rdg0 rrg0 z1 l1 wf1).mono fun e W' ⟨he, hb⟩ => ?_
  subst he
  exact ⟨_, rfl, ⟨_, _, _, [], _, [], hW', trodAll_mk1 (shut_bool Tryd.underlying4 _), below_args laidOut hb (by kernel_rfl) hA1 (fun x hx => by simpa using hW'.lt x hx), rfl, hb.frame _, fun h => by cases h⟩⟩

theorem said : Rows.PlaceAllSaid :=
  OpenClaim.holds_of_wide 4 Tryd.f4 rfl rfl rfl rfl rfl rfl rfl ⟨rfl, rfl, rfl, rfl, rfl⟩ rfl rfl rfl rfl rfl (by kernel_rfl) Tryd.func4 (by kernel_rfl)
    (of_decide_eq_true (by kernel_rfl)) (by unfold Func.isWrapper; first | (rw [if_pos (by decide +kernel)]; kernel_rfl) | (rw [if_neg (by decide +kernel)]; exact ⟨rfl, rfl⟩))
    (fun os started H enc _ => lifted os started H enc)

theorem proved : Rows.PlaceAllCardSaid :=
  Claim7.holds_tied_plain_at .later [] [.data, .data, .data] true Rows.placeAllCard.stood.harness false
    said (fun _ h => by cases h) (by kernel_rfl) (fun _ h => by cases h) placeAll_row_tie rfl ⟨rfl, rfl⟩ (by kernel_rfl) rfl
    (fun f fn hf hfn => by
      obtain rfl : f = 4 := Option.some.inj ((show Tryd.prog.funcNamed "warrener/warrenerlaw18.PlaceAll" = some 4 by kernel_rfl).symm.trans hf) |>.symm
      obtain rfl : fn = Tryd.f4 := (Option.some.inj (Tryd.func4.symm.trans hfn)).symm
      exact ⟨by kernel_rfl, fun j t ht => by
        have hm : t ∈ Tryd.f4.params := Array.mem_of_getElem? ht
        have hall : (Tryd.f4.params.all fun u => !Tryd.prog.wantsStandIn u) = true := by kernel_rfl
        have := Array.all_eq_true_iff_forall_mem.1 hall t hm
        exact (show Tryd.prog.wantsStandIn t = false by simpa using this)⟩)
    (by kernel_rfl)
end
end Go.Proofs.YtkjhopnhphiiaaaDoor.placeAll
