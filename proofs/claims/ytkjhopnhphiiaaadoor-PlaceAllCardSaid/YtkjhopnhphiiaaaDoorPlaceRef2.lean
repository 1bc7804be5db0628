/-
  Whether a place is one of a program's, as the reference tells it; how many there are; a program cut short.
-/
import Derived.Test.YtkjhopnhphiiaaaDoorPlaceRef
import Derived.Test.YtkjhopnhphiiaaaDoorCalm
import Derived.BigQuiet
import Derived.Deep.DeepCutAuto
import Derived.Deep.CutBlock
set_option linter.unusedVariables false
namespace Go.Proofs.YtkjhopnhphiiaaaDoor.Line
open Go.RowKit Go.Sort Go.Proofs.YtkjhopnhphiiaaaDoor.Own Go.Proofs.YtkjhopnhphiiaaaDoor.Conv Go.Proofs.YtkjhopnhphiiaaaDoor.Calm

set_option maxRecDepth 100000 in
set_option maxHeartbeats 8000000 in
theorem refis_is (k i j r c s : Int) (R C S T : Nat) (hR : clampI r 0 4 = R) (hC : clampI c 0 6 = C) (hS : clampI s 0 2 = S) (ao : Option Addr) (n cap : Nat) (hn : n ≤ cap) (hm : cap ≤ maxLen) (hT : clampI n 0 4 = T) (w : World) :
    Calls Tryd.prog 10 #[.agg #[.int .i64 k, .int .i64 i, .int .i64 j], .agg #[.int .i64 r, .int .i64 c, .int .i64 s, .slice ao n cap]] w fun e w' => e = .returned (.bool (isPl R C S T (k, i, j))) ∧ Kept No w w' := by
  obtain ⟨b, hb⟩ : ∃ b, isPl R C S T (k, i, j) = b := ⟨_, rfl⟩
  rw [hb]
  unfold maxLen at hm
  simp only [isPl] at hb
  have l1 : ∀ w, Calls Tryd.prog 20 #[.int .i64 n, .int .i64 4] w fun e w' => e = .returned (.int .i64 T) ∧ w' = w := fun w => by rw [← hT]; exact low_is n 4 (by omega) w
  have l2 : ∀ w, Calls Tryd.prog 20 #[.int .i64 r, .int .i64 4] w fun e w' => e = .returned (.int .i64 R) ∧ Kept No w w' := fun w => by rw [← hR]; exact (low_is r 4 (by omega) w).mono (by rintro e w' ⟨rfl, rfl⟩; exact ⟨rfl, Kept.refl _ _⟩)
  have l3 : ∀ w, Calls Tryd.prog 20 #[.int .i64 c, .int .i64 6] w fun e w' => e = .returned (.int .i64 C) ∧ Kept No w w' := fun w => by rw [← hC]; exact (low_is c 6 (by omega) w).mono (by rintro e w' ⟨rfl, rfl⟩; exact ⟨rfl, Kept.refl _ _⟩)
  have l4 : ∀ w, Calls Tryd.prog 20 #[.int .i64 s, .int .i64 2] w fun e w' => e = .returned (.int .i64 S) ∧ Kept No w w' := fun w => by rw [← hS]; exact (low_is s 2 (by omega) w).mono (by rintro e w' ⟨rfl, rfl⟩; exact ⟨rfl, Kept.refl _ _⟩)
  have L1 := Lib.hid l1
  have L2 := Lib.hid l2
  have L3 := Lib.hid l3
  have L4 := Lib.hid l4
  have hbx := (Box.new w #[.int .i64 k, .int .i64 i, .int .i64 j] 23).alloc (.cells #[.int .i64 r, .int .i64 c, .int .i64 s, .slice ao n cap] 26)
  have hby := Box.new (w.alloc (.cells #[.int .i64 k, .int .i64 i, .int .i64 j] 23)) #[.int .i64 r, .int .i64 c, .int .i64 s, .slice ao n cap] 26
  have hk : Kept No w ((w.alloc (.cells #[.int .i64 k, .int .i64 i, .int .i64 j] 23)).alloc (.cells #[.int .i64 r, .int .i64 c, .int .i64 s, .slice ao n cap] 26)) := ((Kept.refl _ _).alloc _).alloc _
  simp only [World.size_alloc] at hby
  have HB := Lib.hid hb
  have HK := Lib.hid hk
  have HX := Lib.hid hbx
  have HY := Lib.hid hby
  clear hb hk hbx hby l1 l2 l3 l4 hR hC hS hT
  go_enter Tryd.func10, Tryd.ntmps10
  go_upto_region 2 with (go_at_call 20; with_reducible refine (L1.out _).mono ?_; rintro e w' ⟨rfl, rfl⟩)
  by_cases k1 : k = 1
  · subst k1
    go_upto_region 4 with fail
    have HX1 := HX.out
    have HY1 := HY.out
    have HK1 := HK.out
    generalize (w.alloc (.cells #[.int .i64 _, .int .i64 i, .int .i64 j] 23)).alloc (.cells #[.int .i64 r, .int .i64 c, .int .i64 s, .slice ao n cap] 26) = w0 at *
    obtain ⟨c0, c1, c2⟩ := KW.box3 HX1
    obtain ⟨d0, d1, d2, d3⟩ := KW.box4 HY1
    clear HX HY HK HX1 HY1
    by_cases a2 : 0 ≤ i
    · by_cases a1 : i < (R : Int)
      · obtain rfl : (j == 0) = b := by rw [← HB.out, Bool.eq_iff_iff]; simp; try (intros; omega)
        refine wp_region_calm (by kernel_rfl) (by kernel_rfl) ?_
        repeat (go_big_quiet_step ((go_at_call 20; with_reducible exact calls_of _ (L2.out _))))
        refine wpQuiet_nil ?_
        rintro _ ⟨p, rfl⟩
        go_wp2_with fail
        go_ret
        exact ⟨rfl, HK1.trans p.h (fun _ _ f => f)⟩
      · have f1 : decide (i < (R : Int)) = false := by simpa using a1
        obtain rfl : false = b := by rw [← HB.out, Bool.eq_iff_iff]; simp; try (intros; omega)
        refine wp_region_calm (by kernel_rfl) (by kernel_rfl) ?_
        repeat (go_big_quiet_step ((go_at_call 20; with_reducible exact calls_of _ (L2.out _))))
        refine wpQuiet_nil ?_
        rintro _ ⟨p, rfl⟩
        go_wp2_with fail
        go_ret
        exact ⟨rfl, HK1.trans p.h (fun _ _ f => f)⟩
    · have f2 : decide (0 ≤ i) = false := by simpa using a2
      obtain rfl : false = b := by rw [← HB.out, Bool.eq_iff_iff]; simp; try (intros; omega)
      refine wp_region_calm (by kernel_rfl) (by kernel_rfl) ?_
      repeat (go_big_quiet_step ((go_at_call 20; with_reducible exact calls_of _ (L2.out _))))
      refine wpQuiet_nil ?_
      rintro _ ⟨p, rfl⟩
      go_wp2_with fail
      go_ret
      exact ⟨rfl, HK1.trans p.h (fun _ _ f => f)⟩
  by_cases k2 : k = 2
  · subst k2
    go_upto_region 6 with fail
    have HX1 := HX.out
    have HY1 := HY.out
    have HK1 := HK.out
    generalize (w.alloc (.cells #[.int .i64 _, .int .i64 i, .int .i64 j] 23)).alloc (.cells #[.int .i64 r, .int .i64 c, .int .i64 s, .slice ao n cap] 26) = w0 at *
    obtain ⟨c0, c1, c2⟩ := KW.box3 HX1
    obtain ⟨d0, d1, d2, d3⟩ := KW.box4 HY1
    clear HX HY HK HX1 HY1
    by_cases a2 : 1 ≤ i
    · by_cases a1 : i ≤ (C : Int)
      · obtain rfl : (j == 0) = b := by rw [← HB.out, Bool.eq_iff_iff]; simp; try (intros; omega)
        refine wp_region_calm (by kernel_rfl) (by kernel_rfl) ?_
        repeat (go_big_quiet_step ((go_at_call 20; with_reducible exact calls_of _ (L3.out _))))
        refine wpQuiet_nil ?_
        rintro _ ⟨p, rfl⟩
        go_wp2_with fail
        go_ret
        exact ⟨rfl, HK1.trans p.h (fun _ _ f => f)⟩
      · have f1 : decide (i ≤ (C : Int)) = false := by simpa using a1
        obtain rfl : false = b := by rw [← HB.out, Bool.eq_iff_iff]; simp; try (intros; omega)
        refine wp_region_calm (by kernel_rfl) (by kernel_rfl) ?_
        repeat (go_big_quiet_step ((go_at_call 20; with_reducible exact calls_of _ (L3.out _))))
        refine wpQuiet_nil ?_
        rintro _ ⟨p, rfl⟩
        go_wp2_with fail
        go_ret
        exact ⟨rfl, HK1.trans p.h (fun _ _ f => f)⟩
    · have f2 : decide (1 ≤ i) = false := by simpa using a2
      obtain rfl : false = b := by rw [← HB.out, Bool.eq_iff_iff]; simp; try (intros; omega)
      refine wp_region_calm (by kernel_rfl) (by kernel_rfl) ?_
      repeat (go_big_quiet_step ((go_at_call 20; with_reducible exact calls_of _ (L3.out _))))
      refine wpQuiet_nil ?_
      rintro _ ⟨p, rfl⟩
      go_wp2_with fail
      go_ret
      exact ⟨rfl, HK1.trans p.h (fun _ _ f => f)⟩
  by_cases k3 : k = 3
  · subst k3
    go_upto_region 8 with fail
    have HX1 := HX.out
    have HY1 := HY.out
    have HK1 := HK.out
    generalize (w.alloc (.cells #[.int .i64 _, .int .i64 i, .int .i64 j] 23)).alloc (.cells #[.int .i64 r, .int .i64 c, .int .i64 s, .slice ao n cap] 26) = w0 at *
    obtain ⟨c0, c1, c2⟩ := KW.box3 HX1
    obtain ⟨d0, d1, d2, d3⟩ := KW.box4 HY1
    clear HX HY HK HX1 HY1
    by_cases a3 : 1 ≤ i
    · by_cases a2 : i ≤ (C : Int)
      · by_cases a1 : 0 ≤ j
        · obtain rfl : decide (j ≤ 1) = b := by rw [← HB.out, Bool.eq_iff_iff]; simp; try (intros; omega)
          refine wp_region_calm (by kernel_rfl) (by kernel_rfl) ?_
          repeat (go_big_quiet_step ((go_at_call 20; with_reducible exact calls_of _ (L3.out _))))
          refine wpQuiet_nil ?_
          rintro _ ⟨p, rfl⟩
          go_wp2_with fail
          go_ret
          exact ⟨rfl, HK1.trans p.h (fun _ _ f => f)⟩
        · have f1 : decide (0 ≤ j) = false := by simpa using a1
          obtain rfl : false = b := by rw [← HB.out, Bool.eq_iff_iff]; simp; try (intros; omega)
          refine wp_region_calm (by kernel_rfl) (by kernel_rfl) ?_
          repeat (go_big_quiet_step ((go_at_call 20; with_reducible exact calls_of _ (L3.out _))))
          refine wpQuiet_nil ?_
          rintro _ ⟨p, rfl⟩
          go_wp2_with fail
          go_ret
          exact ⟨rfl, HK1.trans p.h (fun _ _ f => f)⟩
      · have f2 : decide (i ≤ (C : Int)) = false := by simpa using a2
        obtain rfl : false = b := by rw [← HB.out, Bool.eq_iff_iff]; simp; try (intros; omega)
        refine wp_region_calm (by kernel_rfl) (by kernel_rfl) ?_
        repeat (go_big_quiet_step ((go_at_call 20; with_reducible exact calls_of _ (L3.out _))))
        refine wpQuiet_nil ?_
        rintro _ ⟨p, rfl⟩
        go_wp2_with fail
        go_ret
        exact ⟨rfl, HK1.trans p.h (fun _ _ f => f)⟩
    · have f3 : decide (1 ≤ i) = false := by simpa using a3
      obtain rfl : false = b := by rw [← HB.out, Bool.eq_iff_iff]; simp; try (intros; omega)
      refine wp_region_calm (by kernel_rfl) (by kernel_rfl) ?_
      repeat (go_big_quiet_step ((go_at_call 20; with_reducible exact calls_of _ (L3.out _))))
      refine wpQuiet_nil ?_
      rintro _ ⟨p, rfl⟩
      go_wp2_with fail
      go_ret
      exact ⟨rfl, HK1.trans p.h (fun _ _ f => f)⟩
  by_cases k4 : k = 4
  · subst k4
    by_cases a1 : i = 0
    · subst a1
      obtain rfl : (j == 0) = b := by rw [← HB.out, Bool.eq_iff_iff]; simp; try (intros; omega)
      have HK1 := HK.out
      go_wp2_with fail
      go_ret
      exact ⟨rfl, HK1⟩
    · have f1 : decide (i = 0) = false := by simpa using a1
      obtain rfl : false = b := by rw [← HB.out, Bool.eq_iff_iff]; simp; try (intros; omega)
      have HK1 := HK.out
      go_wp2_with fail
      go_ret
      exact ⟨rfl, HK1⟩
  by_cases k5 : k = 5
  · subst k5
    go_upto_region 13 with fail
    have HX1 := HX.out
    have HY1 := HY.out
    have HK1 := HK.out
    generalize (w.alloc (.cells #[.int .i64 _, .int .i64 i, .int .i64 j] 23)).alloc (.cells #[.int .i64 r, .int .i64 c, .int .i64 s, .slice ao n cap] 26) = w0 at *
    obtain ⟨c0, c1, c2⟩ := KW.box3 HX1
    obtain ⟨d0, d1, d2, d3⟩ := KW.box4 HY1
    clear HX HY HK HX1 HY1
    by_cases a3 : 0 ≤ i
    · by_cases a2 : i < (T : Int)
      · by_cases a1 : 0 ≤ j
        · obtain rfl : decide (j < (S : Int)) = b := by rw [← HB.out, Bool.eq_iff_iff]; simp; try (intros; omega)
          refine wp_region_calm (by kernel_rfl) (by kernel_rfl) ?_
          repeat (go_big_quiet_step ((go_at_call 20; with_reducible exact calls_of _ (L4.out _))))
          refine wpQuiet_nil ?_
          rintro _ ⟨p, rfl⟩
          go_wp2_with fail
          go_ret
          exact ⟨rfl, HK1.trans p.h (fun _ _ f => f)⟩
        · have f1 : decide (0 ≤ j) = false := by simpa using a1
          obtain rfl : false = b := by rw [← HB.out, Bool.eq_iff_iff]; simp; try (intros; omega)
          refine wp_region_calm (by kernel_rfl) (by kernel_rfl) ?_
          repeat (go_big_quiet_step ((go_at_call 20; with_reducible exact calls_of _ (L4.out _))))
          refine wpQuiet_nil ?_
          rintro _ ⟨p, rfl⟩
          go_wp2_with fail
          go_ret
          exact ⟨rfl, HK1.trans p.h (fun _ _ f => f)⟩
      · have f2 : decide (i < (T : Int)) = false := by simpa using a2
        obtain rfl : false = b := by rw [← HB.out, Bool.eq_iff_iff]; simp; try (intros; omega)
        refine wp_region_calm (by kernel_rfl) (by kernel_rfl) ?_
        repeat (go_big_quiet_step ((go_at_call 20; with_reducible exact calls_of _ (L4.out _))))
        refine wpQuiet_nil ?_
        rintro _ ⟨p, rfl⟩
        go_wp2_with fail
        go_ret
        exact ⟨rfl, HK1.trans p.h (fun _ _ f => f)⟩
    · have f3 : decide (0 ≤ i) = false := by simpa using a3
      obtain rfl : false = b := by rw [← HB.out, Bool.eq_iff_iff]; simp; try (intros; omega)
      refine wp_region_calm (by kernel_rfl) (by kernel_rfl) ?_
      repeat (go_big_quiet_step ((go_at_call 20; with_reducible exact calls_of _ (L4.out _))))
      refine wpQuiet_nil ?_
      rintro _ ⟨p, rfl⟩
      go_wp2_with fail
      go_ret
      exact ⟨rfl, HK1.trans p.h (fun _ _ f => f)⟩
  by_cases k6 : k = 6
  · subst k6
    by_cases a1 : i = 0
    · subst a1
      obtain rfl : (j == 0) = b := by rw [← HB.out, Bool.eq_iff_iff]; simp; try (intros; omega)
      have HK1 := HK.out
      go_wp2_with fail
      go_ret
      exact ⟨rfl, HK1⟩
    · have f1 : decide (i = 0) = false := by simpa using a1
      obtain rfl : false = b := by rw [← HB.out, Bool.eq_iff_iff]; simp; try (intros; omega)
      have HK1 := HK.out
      go_wp2_with fail
      go_ret
      exact ⟨rfl, HK1⟩
  by_cases k7 : k = 7
  · subst k7
    by_cases a2 : 0 ≤ i
    · by_cases a1 : i < (T : Int)
      · obtain rfl : (j == 0) = b := by rw [← HB.out, Bool.eq_iff_iff]; simp; try (intros; omega)
        have HK1 := HK.out
        go_wp2_with fail
        go_ret
        exact ⟨rfl, HK1⟩
      · have f1 : decide (i < (T : Int)) = false := by simpa using a1
        obtain rfl : false = b := by rw [← HB.out, Bool.eq_iff_iff]; simp; try (intros; omega)
        have HK1 := HK.out
        go_wp2_with fail
        go_ret
        exact ⟨rfl, HK1⟩
    · have f2 : decide (0 ≤ i) = false := by simpa using a2
      obtain rfl : false = b := by rw [← HB.out, Bool.eq_iff_iff]; simp; try (intros; omega)
      have HK1 := HK.out
      go_wp2_with fail
      go_ret
      exact ⟨rfl, HK1⟩
  by_cases k8 : k = 8
  · subst k8
    by_cases a2 : 0 ≤ i
    · by_cases a1 : i < (T : Int)
      · obtain rfl : (j == 0) = b := by rw [← HB.out, Bool.eq_iff_iff]; simp; try (intros; omega)
        have HK1 := HK.out
        go_wp2_with fail
        go_ret
        exact ⟨rfl, HK1⟩
      · have f1 : decide (i < (T : Int)) = false := by simpa using a1
        obtain rfl : false = b := by rw [← HB.out, Bool.eq_iff_iff]; simp; try (intros; omega)
        have HK1 := HK.out
        go_wp2_with fail
        go_ret
        exact ⟨rfl, HK1⟩
    · have f2 : decide (0 ≤ i) = false := by simpa using a2
      obtain rfl : false = b := by rw [← HB.out, Bool.eq_iff_iff]; simp; try (intros; omega)
      have HK1 := HK.out
      go_wp2_with fail
      go_ret
      exact ⟨rfl, HK1⟩
  obtain rfl : false = b := by rw [← HB.out, if_neg k1, if_neg k2, if_neg k3, if_neg (by omega), if_neg k5, if_neg (by omega)]
  have g1 : (k == 1) = false := by simp [k1]
  have g2 : (k == 2) = false := by simp [k2]
  have g3 : (k == 3) = false := by simp [k3]
  have g4 : (k == 4) = false := by simp [k4]
  have g5 : (k == 5) = false := by simp [k5]
  have g6 : (k == 6) = false := by simp [k6]
  have g7 : (k == 7) = false := by simp [k7]
  have g8 : (k == 8) = false := by simp [k8]
  clear k1 k2 k3 k4 k5 k6 k7 k8
  have HK1 := HK.out
  go_wp2_with fail
  go_ret
  exact ⟨rfl, HK1⟩
end Go.Proofs.YtkjhopnhphiiaaaDoor.Line
