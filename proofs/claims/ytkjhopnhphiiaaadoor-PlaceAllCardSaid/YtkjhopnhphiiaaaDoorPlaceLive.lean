/-
  Package place's statements: what they ask of lists of places; a program cut short; alive.
-/
import Derived.Test.YtkjhopnhphiiaaaDoorPlaceColl
import Derived.Test.YtkjhopnhphiiaaaDoorPlaceText
import Derived.Test.YtkjhopnhphiiaaaDoorPlaceLess2
import Derived.BigQuiet
set_option linter.unusedVariables false
namespace Go.Proofs.YtkjhopnhphiiaaaDoor.Line
open Go.RowKit Go.Sort Go.Proofs.YtkjhopnhphiiaaaDoor.Own Go.Proofs.YtkjhopnhphiiaaaDoor.Conv Go.Proofs.YtkjhopnhphiiaaaDoor.Calm

theorem plV_at : ∀ (xs : List Pl) (k : Nat) (x : Pl), xs[k]? = some x → (plV xs)[k * 3]? = some (.int .i64 x.1) ∧ (plV xs)[k * 3 + 1]? = some (.int .i64 x.2.1) ∧ (plV xs)[k * 3 + 2]? = some (.int .i64 x.2.2)
  | [], k, x, h => by simp at h
  | y :: r, 0, x, h => by
    simp only [List.getElem?_cons_zero, Option.some.injEq] at h
    subst h
    exact ⟨rfl, rfl, rfl⟩
  | y :: r, k + 1, x, h => by
    obtain ⟨h1, h2, h3⟩ := plV_at r k x (by simpa using h)
    have e : plV (y :: r) = .int .i64 y.1 :: .int .i64 y.2.1 :: .int .i64 y.2.2 :: plV r := rfl
    rw [e]
    rw [show (k + 1) * 3 = k * 3 + 1 + 1 + 1 by omega, show k * 3 + 1 + 1 + 1 + 1 = (k * 3 + 1) + 1 + 1 + 1 by omega, show k * 3 + 1 + 1 + 1 + 2 = (k * 3 + 2) + 1 + 1 + 1 by omega]
    simp only [List.getElem?_cons_succ]
    exact ⟨h1, h2, h3⟩

set_option maxHeartbeats 4000000 in
theorem has_is (w : World) (v : Value) (n : Nat) (xs : List Pl) (hx : Rd w 3 v n (plV xs)) (x : Pl) :
    Calls Tryd.prog 14 #[v, .agg #[.int .i64 x.1, .int .i64 x.2.1, .int .i64 x.2.2]] w fun e w' => e = .returned (.bool (decide (x ∈ xs))) ∧ Kept No w w' := by
  obtain ⟨hl, ao, lc, rfl, hc, hm, hn, hR⟩ := hx
  rw [plV_len] at hl
  have hl1 : xs.length ≤ n := by omega
  have hl2 : n ≤ xs.length := by omega
  unfold maxLen at hm
  have HR := Lib.hid hR
  have hk0 : Kept No w (w.alloc (.cells #[.int .i64 x.1, .int .i64 x.2.1, .int .i64 x.2.2] 23)) := (Kept.refl _ _).alloc _
  have hb0 := Box.new w #[.int .i64 x.1, .int .i64 x.2.1, .int .i64 x.2.2] 23
  obtain ⟨b, hb⟩ : ∃ b, decide (x ∈ xs) = b := ⟨_, rfl⟩
  rw [hb]
  have HB := Lib.hid hb
  clear hR hl hb
  go_enter Tryd.func14, Tryd.ntmps14
  go_wp2_with fail
  go_loopw [5] (fun i wr => ∃ k : Nat, k ≤ n ∧ i = .int .i64 k ∧ Hid (x ∉ xs.take k) ∧ Kept No w wr ∧ Box wr w.heap.size #[.int .i64 x.1, .int .i64 x.2.1, .int .i64 x.2.2] 23) (fun i _ => n - (intOf i).toNat)
  case atStart => exact ⟨0, by omega, rfl, Lib.hid (by simp), hk0, hb0⟩
  case round =>
    obtain ⟨k, hk, rfl, hnm, hK, hbx⟩ := hrel
    by_cases hlt : k < n
    · obtain ⟨g, o, rfl, hg, hcell⟩ := HR.out (by omega)
      obtain ⟨y, hy⟩ : ∃ y, xs[k]? = some y := ⟨_, List.getElem?_eq_getElem (by omega)⟩
      obtain ⟨p1, p2, p3⟩ := plV_at xs k y hy
      have e1 : wr.cell? ⟨g, o + k * 3, none⟩ = some (.int .i64 y.1) := (hK.cell (p := ⟨g, o + k * 3, none⟩) hg id).trans (hcell _ _ p1)
      have e2 : wr.cell? ⟨g, o + k * 3 + 1, none⟩ = some (.int .i64 y.2.1) := (hK.cell (p := ⟨g, o + k * 3 + 1, none⟩) hg id).trans (hcell _ _ p2)
      have e3 : wr.cell? ⟨g, o + k * 3 + 2, none⟩ = some (.int .i64 y.2.2) := (hK.cell (p := ⟨g, o + k * 3 + 2, none⟩) hg id).trans (hcell _ _ p3)
      have d1 : wr.cell? ⟨w.heap.size, 0, none⟩ = some (.int .i64 x.1) := hbx.cell 0
      have d2 : wr.cell? ⟨w.heap.size, 1, none⟩ = some (.int .i64 x.2.1) := hbx.cell 1
      have d3 : wr.cell? ⟨w.heap.size, 2, none⟩ = some (.int .i64 x.2.2) := hbx.cell 2
      have hd : xs.take (k + 1) = xs.take k ++ [y] := by rw [List.take_add_one, hy]; rfl
      have HD := Lib.hid hd
      have HY := Lib.hid hy
      have i0 : (0 : Int) ≤ (k : Int) := by omega
      have i1 : (k : Int) < (n : Int) := by omega
      clear hcell p1 p2 p3 hd hy
      by_cases hxy : x = y
      · subst hxy
        have hbt : b = true := by rw [← HB.out]; simpa using List.mem_of_getElem? HY.out
        have HBT := Lib.hid hbt
        clear hbt
        go_wp2_with fail
        refine wp_region_quiet_lit (by kernel_rfl) (by kernel_rfl) ?_
        repeat (go_big_quiet_step (fail))
        refine wpQuiet_nil ?_
        rintro _ ⟨nq, rfl⟩
        go_wp2_with fail
        go_ret
        exact ⟨by rw [HBT.out]; rfl, hK.drewN nq⟩
      · obtain ⟨x1, x2, x3⟩ := x
        obtain ⟨y1, y2, y3⟩ := y
        have HNM : Hid ((x1, x2, x3) ∉ xs.take (k + 1)) := Lib.hid (by
          rw [HD.out]
          intro h
          rcases List.mem_append.1 h with h | h
          · exact hnm.out h
          · exact hxy (List.mem_singleton.1 h))
        simp only [Prod.mk.injEq] at hxy
        simp only at e1 e2 e3 d1 d2 d3 hbx
        clear HD hnm HY
        by_cases a1 : x1 = y1
        · subst a1
          by_cases a2 : x2 = y2
          · subst a2
            have a3 : ¬ y3 = x3 := fun h => hxy ⟨rfl, rfl, h.symm⟩
            clear hxy
            go_wp2_with fail
            refine wp_region_quiet_lit (by kernel_rfl) (by kernel_rfl) ?_
            repeat (go_big_quiet_step (fail))
            refine wpQuiet_nil ?_
            rintro _ ⟨nq, rfl⟩
            have hK2 := hK.drewN nq
            have hbx2 : Box (wr.drewN nq) w.heap.size #[.int .i64 x1, .int .i64 x2, .int .i64 x3] 23 := hbx
            go_wp2_with fail
            go_roundw
            case rel => exact ⟨k + 1, by omega, by go_num, HNM, hK2, hbx2⟩
            case measure => simp [intOf]; omega
          · clear hxy
            have a2' : ¬ y2 = x2 := fun h => a2 h.symm
            go_wp2_with fail
            refine wp_region_quiet_lit (by kernel_rfl) (by kernel_rfl) ?_
            repeat (go_big_quiet_step (fail))
            refine wpQuiet_nil ?_
            rintro _ ⟨nq, rfl⟩
            have hK2 := hK.drewN nq
            have hbx2 : Box (wr.drewN nq) w.heap.size #[.int .i64 x1, .int .i64 x2, .int .i64 x3] 23 := hbx
            go_wp2_with fail
            go_roundw
            case rel => exact ⟨k + 1, by omega, by go_num, HNM, hK2, hbx2⟩
            case measure => simp [intOf]; omega
        · clear hxy
          have a1' : ¬ y1 = x1 := fun h => a1 h.symm
          go_wp2_with fail
          refine wp_region_quiet_lit (by kernel_rfl) (by kernel_rfl) ?_
          repeat (go_big_quiet_step (fail))
          refine wpQuiet_nil ?_
          rintro _ ⟨nq, rfl⟩
          have hK2 := hK.drewN nq
          have hbx2 : Box (wr.drewN nq) w.heap.size #[.int .i64 x1, .int .i64 x2, .int .i64 x3] 23 := hbx
          go_wp2_with fail
          go_roundw
          case rel => exact ⟨k + 1, by omega, by go_num, HNM, hK2, hbx2⟩
          case measure => simp [intOf]; omega
    · obtain rfl : k = n := by omega
      have hbt : b = false := by
        rw [← HB.out]
        have := hnm.out
        rw [List.take_of_length_le (by omega)] at this
        simpa using this
      have HBT := Lib.hid hbt
      clear hbt
      go_wp2_with fail
      go_ret
      exact ⟨by rw [HBT.out]; rfl, hK⟩

set_option maxHeartbeats 4000000 in
theorem sizes_is (r c s : Int) (R C S T : Nat) (hR : clampI r 0 4 = R) (hC : clampI c 0 6 = C) (hS : clampI s 0 2 = S) (bR : R ≤ 4) (bC : C ≤ 6) (bS : S ≤ 2) (bT : T ≤ 4) (ao : Option Addr) (n cap : Nat) (hn : n ≤ cap) (hm : cap ≤ maxLen) (hT : clampI n 0 4 = T) (a2 : Option Addr) (m c2 : Nat) (hm1 : m = R + 3 * C + 2 + T * S + 2 * T) (w : World) :
    Calls Tryd.prog 15 #[.slice a2 m c2, .agg #[.int .i64 r, .int .i64 c, .int .i64 s, .slice ao n cap]] w fun e w' => e = .returned (.bool true) ∧ Kept No w w' := by
  unfold maxLen at hm
  have l1 : ∀ w, Calls Tryd.prog 23 #[.int .i64 n, .int .i64 0, .int .i64 4] w fun e w' => e = .returned (.int .i64 T) ∧ w' = w := fun w => by rw [← hT]; exact near_is n 0 4 (by omega) w
  have l2 : ∀ w, Calls Tryd.prog 23 #[.int .i64 r, .int .i64 0, .int .i64 4] w fun e w' => e = .returned (.int .i64 R) ∧ w' = w := fun w => by rw [← hR]; exact near_is r 0 4 (by omega) w
  have l3 : ∀ w, Calls Tryd.prog 23 #[.int .i64 c, .int .i64 0, .int .i64 6] w fun e w' => e = .returned (.int .i64 C) ∧ w' = w := fun w => by rw [← hC]; exact near_is c 0 6 (by omega) w
  have l4 : ∀ w, Calls Tryd.prog 23 #[.int .i64 s, .int .i64 0, .int .i64 2] w fun e w' => e = .returned (.int .i64 S) ∧ w' = w := fun w => by rw [← hS]; exact near_is s 0 2 (by omega) w
  have L1 := Lib.hid l1
  have L2 := Lib.hid l2
  have L3 := Lib.hid l3
  have L4 := Lib.hid l4
  have hy := Box.new w #[.int .i64 r, .int .i64 c, .int .i64 s, .slice ao n cap] 26
  have hk : Kept No w (w.alloc (.cells #[.int .i64 r, .int .i64 c, .int .i64 s, .slice ao n cap] 26)) := (Kept.refl _ _).alloc _
  have HY := Lib.hid hy
  have HK := Lib.hid hk
  have hts : T * S ≤ 8 := Nat.le_trans (Nat.mul_le_mul bT bS) (by omega)
  obtain ⟨P, hP⟩ : ∃ P : Nat, T * S = P := ⟨_, rfl⟩
  rw [hP] at hm1 hts
  have eP : (T : Int) * (S : Int) = (P : Int) := by rw [← hP]; simp
  have w1 : IntKind.i64.wrap (P : Int) = (P : Int) := by rw [IntKind.wrap_i64]; omega
  have EP := Lib.hid eP
  have hm2 : (m : Int) = (R : Int) + 3 * (C : Int) + 2 + (P : Int) + 2 * (T : Int) := by omega
  have HM := Lib.hid hm2
  clear hk hy l1 l2 l3 l4 hR hC hS hT hP eP hm1 hm2 w1
  go_enter Tryd.func15, Tryd.ntmps15
  go_upto_region 1 with fail
  have HY1 := HY.out
  have HK1 := HK.out
  generalize w.alloc (.cells #[.int .i64 r, .int .i64 c, .int .i64 s, .slice ao n cap] 26) = w0 at *
  have c0 : w0.cell? ⟨w.heap.size, 0, none⟩ = some (.int .i64 r) := HY1.cell 0
  have c1 : w0.cell? ⟨w.heap.size, 1, none⟩ = some (.int .i64 c) := HY1.cell 1
  have c2 : w0.cell? ⟨w.heap.size, 2, none⟩ = some (.int .i64 s) := HY1.cell 2
  have c3 : w0.cell? ⟨w.heap.size, 3, none⟩ = some (.slice ao n cap) := HY1.cell 3
  clear HY HK HY1
  refine wp_region_quiet_lit (by kernel_rfl) (by kernel_rfl) ?_
  repeat (go_big_quiet_step (first | (go_at_call 23; with_reducible exact Calls.quiet_of_same (L2.out _)) | (go_at_call 23; with_reducible exact Calls.quiet_of_same (L3.out _)) | (go_at_call 23; with_reducible exact Calls.quiet_of_same (L4.out _))))
  refine wpQuiet_nil ?_
  rintro _ ⟨nq, rfl⟩
  go_wp2_with (go_at_call 23; with_reducible refine (L1.out _).mono ?_; rintro e w' ⟨rfl, rfl⟩)
  go_ret
  refine ⟨congrArg (fun b => Ending.returned (Value.bool b)) (show ((m : Int) == wrap64 (wrap64 ((R : Int) + 3 * (C : Int) + 2 + wrap64 ((T : Int) * (S : Int))) + 2 * (T : Int))) = true from ?_), HK1.drewN nq⟩
  rw [EP.out, beq_iff_eq, HM.out]
  unfold wrap64
  omega

set_option maxHeartbeats 4000000 in
theorem few_is (r c s : Int) (ao : Option Addr) (n cap : Nat) (hn : n ≤ cap) (hm : cap ≤ maxLen) (hao : 0 < n → ∃ g o, ao = some ⟨g, o, none⟩) (w : World) :
    Calls Tryd.prog 8 #[.agg #[.int .i64 r, .int .i64 c, .int .i64 s, .slice ao n cap]] w fun e w' => e = .returned (.agg #[.int .i64 r, .int .i64 c, .int .i64 s, .slice ao (min n 7) cap]) ∧ Kept No w w' := by
  unfold maxLen at hm
  go_enter Tryd.func8, Tryd.ntmps8
  by_cases h7 : 7 < n
  · obtain ⟨g, o, rfl⟩ := hao (by omega)
    have h8 : (7 : Int) < (n : Int) := by omega
    have h9 : 7 ≤ cap := by omega
    have hmin : min n 7 = 7 := by omega
    rw [hmin]
    clear hao hmin
    have hb := Box.new (w.alloc (.cells #[.int .i64 r, .int .i64 c, .int .i64 s, .slice (some ⟨g, o, none⟩) 7 cap] 26)) #[.int .i64 r, .int .i64 c, .int .i64 s, .slice (some ⟨g, o, none⟩) 7 cap] 26
    simp only [World.size_alloc] at hb
    have HB := Lib.hid hb
    clear hb
    go_wp2_with fail
    refine bodyPost_ret (results_cell_row rfl _ _ (w.heap.size + 1) 26 #[.int .i64 r, .int .i64 c, .int .i64 s, .slice (some ⟨g, o, none⟩) 7 cap] (0, 0) _ rfl HB.out Tryd.underlying26 rfl (by kernel_rfl)) rfl ⟨rfl, ((Kept.refl _ _).alloc _).alloc _⟩
  · have hmin : min n 7 = n := by omega
    rw [hmin]
    have hb := Box.new (w.alloc (.cells #[.int .i64 r, .int .i64 c, .int .i64 s, .slice ao n cap] 26)) #[.int .i64 r, .int .i64 c, .int .i64 s, .slice ao n cap] 26
    simp only [World.size_alloc] at hb
    have HB := Lib.hid hb
    clear hao hmin hb
    go_wp2_with fail
    refine bodyPost_ret (results_cell_row rfl _ _ (w.heap.size + 1) 26 #[.int .i64 r, .int .i64 c, .int .i64 s, .slice ao n cap] (0, 0) _ rfl HB.out Tryd.underlying26 rfl (by kernel_rfl)) rfl ⟨rfl, ((Kept.refl _ _).alloc _).alloc _⟩

set_option maxHeartbeats 4000000 in
theorem alive_is (w : World) (hT : Door.Tabs w) : Calls Tryd.prog 7 #[] w fun e w' => e = .returned (.bool true) ∧ Kept No w w' := by
  have n1 : placeT 3 2 1 = [102, 105, 101, 108, 100, 32, 50, 32, 49] := by decide +kernel
  have n2 : isPl 0 2 0 1 (3, 2, 1) = true := by decide
  have n3 : (placesL 0 2 0 1).length = 10 := by decide
  have n4 : holdsB 3 = true := by decide
  have n5 : lessB 2 2 0 3 2 1 = true := by decide
  have hI : ∀ (ao : Option Addr) (w : World), Calls Tryd.prog 9 #[.agg #[.int .i64 3, .int .i64 2, .int .i64 1], .agg #[.int .i64 0, .int .i64 2, .int .i64 0, .slice ao 1 1]] w fun e w' => e = .returned (.bool true) ∧ Kept No w w' := fun ao w => by
    have := is_is (3, 2, 1) 0 2 0 0 2 0 1 (by decide) (by decide) (by decide) (by omega) (by omega) (by omega) (by omega) ao 1 1 (by omega) (by simp [maxLen]) (by decide) w
    rw [n2] at this
    exact this
  have hX : ∀ w : World, Door.Tabs w → Calls Tryd.prog 18 #[.agg #[.int .i64 3, .int .i64 2, .int .i64 1]] w fun e w' => e = .returned (.string ⟨#[102, 105, 101, 108, 100, 32, 50, 32, 49]⟩) ∧ Kept No w w' := fun w hT => by
    have := text_is 3 2 1 ⟨by omega, by omega⟩ ⟨by omega, by omega⟩ w hT
    rw [n1] at this
    exact this
  have hH : ∀ w : World, Calls Tryd.prog 11 #[.agg #[.int .i64 3, .int .i64 2, .int .i64 1]] w fun e w' => e = .returned (.bool true) ∧ Kept No w w' := fun w => by
    have := holds_is 3 2 1 w
    rw [n4] at this
    exact this
  have hA : ∀ (ao : Option Addr) (w : World), Calls Tryd.prog 12 #[.agg #[.int .i64 0, .int .i64 2, .int .i64 0, .slice ao 1 1]] w fun e w' => ∃ ao2 c2, e = .returned (.slice ao2 10 c2) ∧ Kept No w w' := fun ao w => by
    refine (all_is 0 2 0 0 2 0 1 (by decide) (by decide) (by decide) (by omega) (by omega) (by omega) (by omega) ao 1 1 (by omega) (by simp [maxLen]) (by decide) w).mono ?_
    rintro e w' ⟨v, rfl, hs, hk⟩
    rw [n3] at hs
    obtain ⟨_, ao2, c2, rfl, _⟩ := hs.rd
    exact ⟨_, _, rfl, hk⟩
  have hL : ∀ w : World, Calls Tryd.prog 16 #[.agg #[.int .i64 2, .int .i64 2, .int .i64 0], .agg #[.int .i64 3, .int .i64 2, .int .i64 1]] w fun e w' => e = .returned (.bool true) ∧ Kept No w w' := fun w => by
    have := less_is 2 2 0 3 2 1 w
    rw [n5] at this
    exact this
  have HI := Lib.hid hI
  have HX := Lib.hid hX
  have HH := Lib.hid hH
  have HA := Lib.hid hA
  have HL := Lib.hid hL
  have HT := Lib.hid hT
  clear n1 n2 n3 n4 n5 hI hX hH hA hL hT
  go_enter Tryd.func7, Tryd.ntmps7
  go_wp2_with fail
  have hp0 := (Box.new ((w.alloc (.cells #[] 102)).alloc (.cells #[.slice (some ⟨w.heap.size, 0, none⟩) 0 0] 39)) #[.int .i64 0, .int .i64 2, .int .i64 0, .slice (some ⟨w.heap.size + 1, 0, none⟩) 1 1] 26).alloc (.cells #[.int .i64 3, .int .i64 2, .int .i64 1] 23)
  have hx0 := Box.new (((w.alloc (.cells #[] 102)).alloc (.cells #[.slice (some ⟨w.heap.size, 0, none⟩) 0 0] 39)).alloc (.cells #[.int .i64 0, .int .i64 2, .int .i64 0, .slice (some ⟨w.heap.size + 1, 0, none⟩) 1 1] 26)) #[.int .i64 3, .int .i64 2, .int .i64 1] 23
  have hk0 : Kept No w ((((w.alloc (.cells #[] 102)).alloc (.cells #[.slice (some ⟨w.heap.size, 0, none⟩) 0 0] 39)).alloc (.cells #[.int .i64 0, .int .i64 2, .int .i64 0, .slice (some ⟨w.heap.size + 1, 0, none⟩) 1 1] 26)).alloc (.cells #[.int .i64 3, .int .i64 2, .int .i64 1] 23)) := ((((Kept.refl _ _).alloc _).alloc _).alloc _).alloc _
  simp only [World.size_alloc] at hp0 hx0
  generalize (((w.alloc (.cells #[] 102)).alloc (.cells #[.slice (some ⟨w.heap.size, 0, none⟩) 0 0] 39)).alloc (.cells #[.int .i64 0, .int .i64 2, .int .i64 0, .slice (some ⟨w.heap.size + 1, 0, none⟩) 1 1] 26)).alloc (.cells #[.int .i64 3, .int .i64 2, .int .i64 1] 23) = w0 at *
  have c00 : w0.cell? ⟨w.heap.size + 1 + 1 + 1, 0, none⟩ = some (.int .i64 3) := hx0.cell 0
  have c01 : w0.cell? ⟨w.heap.size + 1 + 1 + 1, 1, none⟩ = some (.int .i64 2) := hx0.cell 1
  have c02 : w0.cell? ⟨w.heap.size + 1 + 1 + 1, 2, none⟩ = some (.int .i64 1) := hx0.cell 2
  have d00 : w0.cell? ⟨w.heap.size + 1 + 1, 0, none⟩ = some (.int .i64 0) := hp0.cell 0
  have d01 : w0.cell? ⟨w.heap.size + 1 + 1, 1, none⟩ = some (.int .i64 2) := hp0.cell 1
  have d02 : w0.cell? ⟨w.heap.size + 1 + 1, 2, none⟩ = some (.int .i64 0) := hp0.cell 2
  have d03 : w0.cell? ⟨w.heap.size + 1 + 1, 3, none⟩ = some (.slice (some ⟨w.heap.size + 1, 0, none⟩) 1 1) := hp0.cell 3
  refine (HI.out _ _).mono ?_
  rintro e w1 ⟨rfl, k1⟩
  have hx1 := hx0.kept k1 id
  have hp1 := hp0.kept k1 id
  have hk1 := hk0.trans k1 (fun _ _ f => f)
  clear k1 hx0 hp0 hk0 c00 c01 c02 d00 d01 d02 d03
  have c10 : w1.cell? ⟨w.heap.size + 1 + 1 + 1, 0, none⟩ = some (.int .i64 3) := hx1.cell 0
  have c11 : w1.cell? ⟨w.heap.size + 1 + 1 + 1, 1, none⟩ = some (.int .i64 2) := hx1.cell 1
  have c12 : w1.cell? ⟨w.heap.size + 1 + 1 + 1, 2, none⟩ = some (.int .i64 1) := hx1.cell 2
  have d10 : w1.cell? ⟨w.heap.size + 1 + 1, 0, none⟩ = some (.int .i64 0) := hp1.cell 0
  have d11 : w1.cell? ⟨w.heap.size + 1 + 1, 1, none⟩ = some (.int .i64 2) := hp1.cell 1
  have d12 : w1.cell? ⟨w.heap.size + 1 + 1, 2, none⟩ = some (.int .i64 0) := hp1.cell 2
  have d13 : w1.cell? ⟨w.heap.size + 1 + 1, 3, none⟩ = some (.slice (some ⟨w.heap.size + 1, 0, none⟩) 1 1) := hp1.cell 3
  go_wp2_with fail
  refine (HX.out _ (HT.out.kept hk1)).mono ?_
  rintro e w2 ⟨rfl, k2⟩
  have hx2 := hx1.kept k2 id
  have hp2 := hp1.kept k2 id
  have hk2 := hk1.trans k2 (fun _ _ f => f)
  clear k2 hx1 hp1 hk1 c10 c11 c12 d10 d11 d12 d13
  have c20 : w2.cell? ⟨w.heap.size + 1 + 1 + 1, 0, none⟩ = some (.int .i64 3) := hx2.cell 0
  have c21 : w2.cell? ⟨w.heap.size + 1 + 1 + 1, 1, none⟩ = some (.int .i64 2) := hx2.cell 1
  have c22 : w2.cell? ⟨w.heap.size + 1 + 1 + 1, 2, none⟩ = some (.int .i64 1) := hx2.cell 2
  have d20 : w2.cell? ⟨w.heap.size + 1 + 1, 0, none⟩ = some (.int .i64 0) := hp2.cell 0
  have d21 : w2.cell? ⟨w.heap.size + 1 + 1, 1, none⟩ = some (.int .i64 2) := hp2.cell 1
  have d22 : w2.cell? ⟨w.heap.size + 1 + 1, 2, none⟩ = some (.int .i64 0) := hp2.cell 2
  have d23 : w2.cell? ⟨w.heap.size + 1 + 1, 3, none⟩ = some (.slice (some ⟨w.heap.size + 1, 0, none⟩) 1 1) := hp2.cell 3
  go_wp2_with fail
  refine (HH.out _).mono ?_
  rintro e w3 ⟨rfl, k3⟩
  have hx3 := hx2.kept k3 id
  have hp3 := hp2.kept k3 id
  have hk3 := hk2.trans k3 (fun _ _ f => f)
  clear k3 hx2 hp2 hk2 c20 c21 c22 d20 d21 d22 d23
  have c30 : w3.cell? ⟨w.heap.size + 1 + 1 + 1, 0, none⟩ = some (.int .i64 3) := hx3.cell 0
  have c31 : w3.cell? ⟨w.heap.size + 1 + 1 + 1, 1, none⟩ = some (.int .i64 2) := hx3.cell 1
  have c32 : w3.cell? ⟨w.heap.size + 1 + 1 + 1, 2, none⟩ = some (.int .i64 1) := hx3.cell 2
  have d30 : w3.cell? ⟨w.heap.size + 1 + 1, 0, none⟩ = some (.int .i64 0) := hp3.cell 0
  have d31 : w3.cell? ⟨w.heap.size + 1 + 1, 1, none⟩ = some (.int .i64 2) := hp3.cell 1
  have d32 : w3.cell? ⟨w.heap.size + 1 + 1, 2, none⟩ = some (.int .i64 0) := hp3.cell 2
  have d33 : w3.cell? ⟨w.heap.size + 1 + 1, 3, none⟩ = some (.slice (some ⟨w.heap.size + 1, 0, none⟩) 1 1) := hp3.cell 3
  go_wp2_with fail
  refine (HA.out _ _).mono ?_
  rintro e w4 ⟨ao2, c2, rfl, k4⟩
  have hx4 := hx3.kept k4 id
  have hp4 := hp3.kept k4 id
  have hk4 := hk3.trans k4 (fun _ _ f => f)
  clear k4 hx3 hp3 hk3 c30 c31 c32 d30 d31 d32 d33
  have c40 : w4.cell? ⟨w.heap.size + 1 + 1 + 1, 0, none⟩ = some (.int .i64 3) := hx4.cell 0
  have c41 : w4.cell? ⟨w.heap.size + 1 + 1 + 1, 1, none⟩ = some (.int .i64 2) := hx4.cell 1
  have c42 : w4.cell? ⟨w.heap.size + 1 + 1 + 1, 2, none⟩ = some (.int .i64 1) := hx4.cell 2
  have d40 : w4.cell? ⟨w.heap.size + 1 + 1, 0, none⟩ = some (.int .i64 0) := hp4.cell 0
  have d41 : w4.cell? ⟨w.heap.size + 1 + 1, 1, none⟩ = some (.int .i64 2) := hp4.cell 1
  have d42 : w4.cell? ⟨w.heap.size + 1 + 1, 2, none⟩ = some (.int .i64 0) := hp4.cell 2
  have d43 : w4.cell? ⟨w.heap.size + 1 + 1, 3, none⟩ = some (.slice (some ⟨w.heap.size + 1, 0, none⟩) 1 1) := hp4.cell 3
  go_wp2_with fail
  refine (HL.out _).mono ?_
  rintro e w5 ⟨rfl, k5⟩
  have hk5 := hk4.trans k5 (fun _ _ f => f)
  go_wp2_with fail
  go_ret
  exact ⟨rfl, hk5⟩
end Go.Proofs.YtkjhopnhphiiaaaDoor.Line
