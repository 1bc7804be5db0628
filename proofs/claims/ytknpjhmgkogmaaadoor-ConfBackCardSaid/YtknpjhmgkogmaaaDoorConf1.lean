/-
  Package conf: which config, and which ask, may be. (Printed by tools/mkchain.py.)
-/
import Derived.Test.YtknpjhmgkogmaaaDoorLine
import Derived.Test.YtknpjhmgkogmaaaDoorCalm
import Derived.BigQuiet
import Derived.Deep.DeepCutAuto
import Derived.Deep.CutBlock
set_option linter.unusedVariables false
namespace Go.Proofs.YtknpjhmgkogmaaaDoor.Line
open Go.RowKit Go.Sort Go.Proofs.YtknpjhmgkogmaaaDoor.Own Go.Proofs.YtknpjhmgkogmaaaDoor.Conv Go.Proofs.YtknpjhmgkogmaaaDoor.Calm

theorem in_is (n lo hi : Int) (w : World) :
    Calls Tryd.prog 33 #[.int .i64 n, .int .i64 lo, .int .i64 hi] w fun e w' => e = .returned (.bool (decide (lo ≤ n ∧ n ≤ hi))) ∧ w' = w := by
  go_enter Tryd.func33, Tryd.ntmps33
  by_cases h0 : lo ≤ n
  · go_wp2_with fail
    all_goals
      go_ret
      simp
      omega
  · go_wp2_with fail
    all_goals
      go_ret
      simp
      omega
theorem in_to (n lo hi : Int) (b : Bool) (h : decide (lo ≤ n ∧ n ≤ hi) = b) (w : World) :
    Calls Tryd.prog 33 #[.int .i64 n, .int .i64 lo, .int .i64 hi] w fun e w' => e = .returned (.bool b) ∧ w' = w := h ▸ in_is n lo hi w
theorem within_is (n lo hi : Int) (w : World) :
    Calls Tryd.prog 22 #[.int .i64 n, .int .i64 lo, .int .i64 hi] w fun e w' => e = .returned (.bool (decide (lo ≤ n ∧ n ≤ hi))) ∧ w' = w := by
  go_enter Tryd.func22, Tryd.ntmps22
  by_cases h0 : lo ≤ n
  · go_wp2_with fail
    all_goals
      go_ret
      simp
      omega
  · go_wp2_with fail
    all_goals
      go_ret
      simp
      omega
theorem within_to (n lo hi : Int) (b : Bool) (h : decide (lo ≤ n ∧ n ≤ hi) = b) (w : World) :
    Calls Tryd.prog 22 #[.int .i64 n, .int .i64 lo, .int .i64 hi] w fun e w' => e = .returned (.bool b) ∧ w' = w := h ▸ within_is n lo hi w

def isCfg (sc od th fu de : Int) : Bool := decide ((0 ≤ sc ∧ sc ≤ 3) ∧ (0 ≤ od ∧ od ≤ 1) ∧ (1 ≤ th ∧ th ≤ 8) ∧ (0 ≤ fu ∧ fu ≤ 16) ∧ (1 ≤ de ∧ de ≤ 4))
def isAsk (mo bu : Int) : Bool := decide ((1 ≤ mo ∧ mo ≤ 3) ∧ (0 ≤ bu ∧ bu ≤ 1048576))
set_option maxHeartbeats 4000000 in
theorem check_is (sc od th fu de : Int) (w : World) :
    Calls Tryd.prog 12 #[.agg #[.int .i64 sc, .int .i64 od, .int .i64 th, .int .i64 fu, .int .i64 de]] w fun e w' => e = .returned (.int .i64 (if (isCfg sc od th fu de) then 0 else 3)) ∧ Kept No w w' := by
  obtain ⟨r, hr⟩ : ∃ r, isCfg sc od th fu de = r := ⟨_, rfl⟩
  rw [hr]
  unfold isCfg at hr
  have hk : Kept No w (w.alloc (.cells #[.int .i64 sc, .int .i64 od, .int .i64 th, .int .i64 fu, .int .i64 de] 23)) := (Kept.refl _ _).alloc _
  have HK := Lib.hid hk
  clear hk
  by_cases h1 : 0 ≤ sc ∧ sc ≤ 3
  · have I1 := Lib.hid (in_to sc 0 3 true (by simp [h1]))
    by_cases h2 : 0 ≤ od ∧ od ≤ 1
    · have I2 := Lib.hid (in_to od 0 1 true (by simp [h2]))
      by_cases h3 : 1 ≤ th ∧ th ≤ 8
      · have I3 := Lib.hid (in_to th 1 8 true (by simp [h3]))
        by_cases h4 : 0 ≤ fu ∧ fu ≤ 16
        · have I4 := Lib.hid (in_to fu 0 16 true (by simp [h4]))
          by_cases h5 : 1 ≤ de ∧ de ≤ 4
          · have I5 := Lib.hid (in_to de 1 4 true (by simp [h5]))
            obtain rfl : true = r := by rw [← hr]; symm; rw [decide_eq_true_eq]; omega
            clear h1 h2 h3 h4 h5 hr
            go_enter Tryd.func12, Tryd.ntmps12
            go_wp2_with (first | (go_at_call 33; with_reducible refine (I1.out _).mono ?_; rintro e w' ⟨rfl, rfl⟩) | (go_at_call 33; with_reducible refine (I2.out _).mono ?_; rintro e w' ⟨rfl, rfl⟩) | (go_at_call 33; with_reducible refine (I3.out _).mono ?_; rintro e w' ⟨rfl, rfl⟩) | (go_at_call 33; with_reducible refine (I4.out _).mono ?_; rintro e w' ⟨rfl, rfl⟩) | (go_at_call 33; with_reducible refine (I5.out _).mono ?_; rintro e w' ⟨rfl, rfl⟩))
            go_ret
            exact ⟨rfl, HK.out⟩
          · have I5 := Lib.hid (in_to de 1 4 false (by rw [decide_eq_false_iff_not]; exact h5))
            obtain rfl : false = r := by rw [← hr]; symm; rw [decide_eq_false_iff_not]; omega
            clear h1 h2 h3 h4 h5 hr
            go_enter Tryd.func12, Tryd.ntmps12
            go_wp2_with (first | (go_at_call 33; with_reducible refine (I1.out _).mono ?_; rintro e w' ⟨rfl, rfl⟩) | (go_at_call 33; with_reducible refine (I2.out _).mono ?_; rintro e w' ⟨rfl, rfl⟩) | (go_at_call 33; with_reducible refine (I3.out _).mono ?_; rintro e w' ⟨rfl, rfl⟩) | (go_at_call 33; with_reducible refine (I4.out _).mono ?_; rintro e w' ⟨rfl, rfl⟩) | (go_at_call 33; with_reducible refine (I5.out _).mono ?_; rintro e w' ⟨rfl, rfl⟩))
            go_ret
            exact ⟨rfl, HK.out⟩
        · have I4 := Lib.hid (in_to fu 0 16 false (by rw [decide_eq_false_iff_not]; exact h4))
          obtain rfl : false = r := by rw [← hr]; symm; rw [decide_eq_false_iff_not]; omega
          clear h1 h2 h3 h4 hr
          go_enter Tryd.func12, Tryd.ntmps12
          go_wp2_with (first | (go_at_call 33; with_reducible refine (I1.out _).mono ?_; rintro e w' ⟨rfl, rfl⟩) | (go_at_call 33; with_reducible refine (I2.out _).mono ?_; rintro e w' ⟨rfl, rfl⟩) | (go_at_call 33; with_reducible refine (I3.out _).mono ?_; rintro e w' ⟨rfl, rfl⟩) | (go_at_call 33; with_reducible refine (I4.out _).mono ?_; rintro e w' ⟨rfl, rfl⟩))
          go_ret
          exact ⟨rfl, HK.out⟩
      · have I3 := Lib.hid (in_to th 1 8 false (by rw [decide_eq_false_iff_not]; exact h3))
        obtain rfl : false = r := by rw [← hr]; symm; rw [decide_eq_false_iff_not]; omega
        clear h1 h2 h3 hr
        go_enter Tryd.func12, Tryd.ntmps12
        go_wp2_with (first | (go_at_call 33; with_reducible refine (I1.out _).mono ?_; rintro e w' ⟨rfl, rfl⟩) | (go_at_call 33; with_reducible refine (I2.out _).mono ?_; rintro e w' ⟨rfl, rfl⟩) | (go_at_call 33; with_reducible refine (I3.out _).mono ?_; rintro e w' ⟨rfl, rfl⟩))
        go_ret
        exact ⟨rfl, HK.out⟩
    · have I2 := Lib.hid (in_to od 0 1 false (by rw [decide_eq_false_iff_not]; exact h2))
      obtain rfl : false = r := by rw [← hr]; symm; rw [decide_eq_false_iff_not]; omega
      clear h1 h2 hr
      go_enter Tryd.func12, Tryd.ntmps12
      go_wp2_with (first | (go_at_call 33; with_reducible refine (I1.out _).mono ?_; rintro e w' ⟨rfl, rfl⟩) | (go_at_call 33; with_reducible refine (I2.out _).mono ?_; rintro e w' ⟨rfl, rfl⟩))
      go_ret
      exact ⟨rfl, HK.out⟩
  · have I1 := Lib.hid (in_to sc 0 3 false (by rw [decide_eq_false_iff_not]; exact h1))
    obtain rfl : false = r := by rw [← hr]; symm; rw [decide_eq_false_iff_not]; omega
    clear h1 hr
    go_enter Tryd.func12, Tryd.ntmps12
    go_wp2_with (first | (go_at_call 33; with_reducible refine (I1.out _).mono ?_; rintro e w' ⟨rfl, rfl⟩))
    go_ret
    exact ⟨rfl, HK.out⟩

set_option maxHeartbeats 4000000 in
theorem checkask_is (mo bu : Int) (st : Bool) (w : World) :
    Calls Tryd.prog 13 #[.agg #[.int .i64 mo, .int .i64 bu, .bool st]] w fun e w' => e = .returned (.int .i64 (if (isAsk mo bu) then 0 else 3)) ∧ Kept No w w' := by
  obtain ⟨r, hr⟩ : ∃ r, isAsk mo bu = r := ⟨_, rfl⟩
  rw [hr]
  unfold isAsk at hr
  have hk : Kept No w (w.alloc (.cells #[.int .i64 mo, .int .i64 bu, .bool st] 25)) := (Kept.refl _ _).alloc _
  have HK := Lib.hid hk
  clear hk
  by_cases h1 : 1 ≤ mo ∧ mo ≤ 3
  · have I1 := Lib.hid (in_to mo 1 3 true (by simp [h1]))
    by_cases h2 : 0 ≤ bu ∧ bu ≤ 1048576
    · have I2 := Lib.hid (in_to bu 0 1048576 true (by simp [h2]))
      obtain rfl : true = r := by rw [← hr]; symm; rw [decide_eq_true_eq]; omega
      clear h1 h2 hr
      go_enter Tryd.func13, Tryd.ntmps13
      go_wp2_with (first | (go_at_call 33; with_reducible refine (I1.out _).mono ?_; rintro e w' ⟨rfl, rfl⟩) | (go_at_call 33; with_reducible refine (I2.out _).mono ?_; rintro e w' ⟨rfl, rfl⟩))
      go_ret
      exact ⟨rfl, HK.out⟩
    · have I2 := Lib.hid (in_to bu 0 1048576 false (by rw [decide_eq_false_iff_not]; exact h2))
      obtain rfl : false = r := by rw [← hr]; symm; rw [decide_eq_false_iff_not]; omega
      clear h1 h2 hr
      go_enter Tryd.func13, Tryd.ntmps13
      go_wp2_with (first | (go_at_call 33; with_reducible refine (I1.out _).mono ?_; rintro e w' ⟨rfl, rfl⟩) | (go_at_call 33; with_reducible refine (I2.out _).mono ?_; rintro e w' ⟨rfl, rfl⟩))
      go_ret
      exact ⟨rfl, HK.out⟩
  · have I1 := Lib.hid (in_to mo 1 3 false (by rw [decide_eq_false_iff_not]; exact h1))
    obtain rfl : false = r := by rw [← hr]; symm; rw [decide_eq_false_iff_not]; omega
    clear h1 hr
    go_enter Tryd.func13, Tryd.ntmps13
    go_wp2_with (first | (go_at_call 33; with_reducible refine (I1.out _).mono ?_; rintro e w' ⟨rfl, rfl⟩))
    go_ret
    exact ⟨rfl, HK.out⟩

set_option maxHeartbeats 4000000 in
theorem refcheck_is (sc od th fu de : Int) (w : World) :
    Calls Tryd.prog 8 #[.agg #[.int .i64 sc, .int .i64 od, .int .i64 th, .int .i64 fu, .int .i64 de]] w fun e w' => e = .returned (.bool (isCfg sc od th fu de)) ∧ Kept No w w' := by
  obtain ⟨r, hr⟩ : ∃ r, isCfg sc od th fu de = r := ⟨_, rfl⟩
  rw [hr]
  unfold isCfg at hr
  have hk : Kept No w (w.alloc (.cells #[.int .i64 sc, .int .i64 od, .int .i64 th, .int .i64 fu, .int .i64 de] 23)) := (Kept.refl _ _).alloc _
  have HK := Lib.hid hk
  clear hk
  by_cases h1 : 0 ≤ sc ∧ sc ≤ 3
  · have I1 := Lib.hid (within_to sc 0 3 true (by simp [h1]))
    by_cases h2 : 0 ≤ od ∧ od ≤ 1
    · have I2 := Lib.hid (within_to od 0 1 true (by simp [h2]))
      by_cases h3 : 1 ≤ th ∧ th ≤ 8
      · have I3 := Lib.hid (within_to th 1 8 true (by simp [h3]))
        by_cases h4 : 0 ≤ fu ∧ fu ≤ 16
        · have I4 := Lib.hid (within_to fu 0 16 true (by simp [h4]))
          by_cases h5 : 1 ≤ de ∧ de ≤ 4
          · have I5 := Lib.hid (within_to de 1 4 true (by simp [h5]))
            obtain rfl : true = r := by rw [← hr]; symm; rw [decide_eq_true_eq]; omega
            clear h1 h2 h3 h4 h5 hr
            go_enter Tryd.func8, Tryd.ntmps8
            go_wp2_with (first | (go_at_call 22; with_reducible refine (I1.out _).mono ?_; rintro e w' ⟨rfl, rfl⟩) | (go_at_call 22; with_reducible refine (I2.out _).mono ?_; rintro e w' ⟨rfl, rfl⟩) | (go_at_call 22; with_reducible refine (I3.out _).mono ?_; rintro e w' ⟨rfl, rfl⟩) | (go_at_call 22; with_reducible refine (I4.out _).mono ?_; rintro e w' ⟨rfl, rfl⟩) | (go_at_call 22; with_reducible refine (I5.out _).mono ?_; rintro e w' ⟨rfl, rfl⟩))
            go_ret
            exact ⟨rfl, HK.out⟩
          · have I5 := Lib.hid (within_to de 1 4 false (by rw [decide_eq_false_iff_not]; exact h5))
            obtain rfl : false = r := by rw [← hr]; symm; rw [decide_eq_false_iff_not]; omega
            clear h1 h2 h3 h4 h5 hr
            go_enter Tryd.func8, Tryd.ntmps8
            go_wp2_with (first | (go_at_call 22; with_reducible refine (I1.out _).mono ?_; rintro e w' ⟨rfl, rfl⟩) | (go_at_call 22; with_reducible refine (I2.out _).mono ?_; rintro e w' ⟨rfl, rfl⟩) | (go_at_call 22; with_reducible refine (I3.out _).mono ?_; rintro e w' ⟨rfl, rfl⟩) | (go_at_call 22; with_reducible refine (I4.out _).mono ?_; rintro e w' ⟨rfl, rfl⟩) | (go_at_call 22; with_reducible refine (I5.out _).mono ?_; rintro e w' ⟨rfl, rfl⟩))
            go_ret
            exact ⟨rfl, HK.out⟩
        · have I4 := Lib.hid (within_to fu 0 16 false (by rw [decide_eq_false_iff_not]; exact h4))
          obtain rfl : false = r := by rw [← hr]; symm; rw [decide_eq_false_iff_not]; omega
          clear h1 h2 h3 h4 hr
          go_enter Tryd.func8, Tryd.ntmps8
          go_wp2_with (first | (go_at_call 22; with_reducible refine (I1.out _).mono ?_; rintro e w' ⟨rfl, rfl⟩) | (go_at_call 22; with_reducible refine (I2.out _).mono ?_; rintro e w' ⟨rfl, rfl⟩) | (go_at_call 22; with_reducible refine (I3.out _).mono ?_; rintro e w' ⟨rfl, rfl⟩) | (go_at_call 22; with_reducible refine (I4.out _).mono ?_; rintro e w' ⟨rfl, rfl⟩))
          go_ret
          exact ⟨rfl, HK.out⟩
      · have I3 := Lib.hid (within_to th 1 8 false (by rw [decide_eq_false_iff_not]; exact h3))
        obtain rfl : false = r := by rw [← hr]; symm; rw [decide_eq_false_iff_not]; omega
        clear h1 h2 h3 hr
        go_enter Tryd.func8, Tryd.ntmps8
        go_wp2_with (first | (go_at_call 22; with_reducible refine (I1.out _).mono ?_; rintro e w' ⟨rfl, rfl⟩) | (go_at_call 22; with_reducible refine (I2.out _).mono ?_; rintro e w' ⟨rfl, rfl⟩) | (go_at_call 22; with_reducible refine (I3.out _).mono ?_; rintro e w' ⟨rfl, rfl⟩))
        go_ret
        exact ⟨rfl, HK.out⟩
    · have I2 := Lib.hid (within_to od 0 1 false (by rw [decide_eq_false_iff_not]; exact h2))
      obtain rfl : false = r := by rw [← hr]; symm; rw [decide_eq_false_iff_not]; omega
      clear h1 h2 hr
      go_enter Tryd.func8, Tryd.ntmps8
      go_wp2_with (first | (go_at_call 22; with_reducible refine (I1.out _).mono ?_; rintro e w' ⟨rfl, rfl⟩) | (go_at_call 22; with_reducible refine (I2.out _).mono ?_; rintro e w' ⟨rfl, rfl⟩))
      go_ret
      exact ⟨rfl, HK.out⟩
  · have I1 := Lib.hid (within_to sc 0 3 false (by rw [decide_eq_false_iff_not]; exact h1))
    obtain rfl : false = r := by rw [← hr]; symm; rw [decide_eq_false_iff_not]; omega
    clear h1 hr
    go_enter Tryd.func8, Tryd.ntmps8
    go_wp2_with (first | (go_at_call 22; with_reducible refine (I1.out _).mono ?_; rintro e w' ⟨rfl, rfl⟩))
    go_ret
    exact ⟨rfl, HK.out⟩

set_option maxHeartbeats 4000000 in
theorem refcheckask_is (mo bu : Int) (st : Bool) (w : World) :
    Calls Tryd.prog 9 #[.agg #[.int .i64 mo, .int .i64 bu, .bool st]] w fun e w' => e = .returned (.bool (isAsk mo bu)) ∧ Kept No w w' := by
  obtain ⟨r, hr⟩ : ∃ r, isAsk mo bu = r := ⟨_, rfl⟩
  rw [hr]
  unfold isAsk at hr
  have hk : Kept No w (w.alloc (.cells #[.int .i64 mo, .int .i64 bu, .bool st] 25)) := (Kept.refl _ _).alloc _
  have HK := Lib.hid hk
  clear hk
  by_cases h1 : 1 ≤ mo ∧ mo ≤ 3
  · have I1 := Lib.hid (within_to mo 1 3 true (by simp [h1]))
    by_cases h2 : 0 ≤ bu ∧ bu ≤ 1048576
    · have I2 := Lib.hid (within_to bu 0 1048576 true (by simp [h2]))
      obtain rfl : true = r := by rw [← hr]; symm; rw [decide_eq_true_eq]; omega
      clear h1 h2 hr
      go_enter Tryd.func9, Tryd.ntmps9
      go_wp2_with (first | (go_at_call 22; with_reducible refine (I1.out _).mono ?_; rintro e w' ⟨rfl, rfl⟩) | (go_at_call 22; with_reducible refine (I2.out _).mono ?_; rintro e w' ⟨rfl, rfl⟩))
      go_ret
      exact ⟨rfl, HK.out⟩
    · have I2 := Lib.hid (within_to bu 0 1048576 false (by rw [decide_eq_false_iff_not]; exact h2))
      obtain rfl : false = r := by rw [← hr]; symm; rw [decide_eq_false_iff_not]; omega
      clear h1 h2 hr
      go_enter Tryd.func9, Tryd.ntmps9
      go_wp2_with (first | (go_at_call 22; with_reducible refine (I1.out _).mono ?_; rintro e w' ⟨rfl, rfl⟩) | (go_at_call 22; with_reducible refine (I2.out _).mono ?_; rintro e w' ⟨rfl, rfl⟩))
      go_ret
      exact ⟨rfl, HK.out⟩
  · have I1 := Lib.hid (within_to mo 1 3 false (by rw [decide_eq_false_iff_not]; exact h1))
    obtain rfl : false = r := by rw [← hr]; symm; rw [decide_eq_false_iff_not]; omega
    clear h1 hr
    go_enter Tryd.func9, Tryd.ntmps9
    go_wp2_with (first | (go_at_call 22; with_reducible refine (I1.out _).mono ?_; rintro e w' ⟨rfl, rfl⟩))
    go_ret
    exact ⟨rfl, HK.out⟩

set_option maxHeartbeats 4000000 in
theorem both_is (sc od th fu de mo bu : Int) (st : Bool) (w : World) :
    Calls Tryd.prog 23 #[.agg #[.int .i64 sc, .int .i64 od, .int .i64 th, .int .i64 fu, .int .i64 de], .agg #[.int .i64 mo, .int .i64 bu, .bool st]] w fun e w' => e = .returned (.bool (isCfg sc od th fu de && isAsk mo bu)) ∧ Kept No w w' := by
  have h1 := check_is sc od th fu de
  have h2 := checkask_is mo bu
  have hbx := (Box.new w #[.int .i64 sc, .int .i64 od, .int .i64 th, .int .i64 fu, .int .i64 de] 23).alloc (.cells #[.int .i64 mo, .int .i64 bu, .bool st] 25)
  have hby := Box.new (w.alloc (.cells #[.int .i64 sc, .int .i64 od, .int .i64 th, .int .i64 fu, .int .i64 de] 23)) #[.int .i64 mo, .int .i64 bu, .bool st] 25
  have hk : Kept No w ((w.alloc (.cells #[.int .i64 sc, .int .i64 od, .int .i64 th, .int .i64 fu, .int .i64 de] 23)).alloc (.cells #[.int .i64 mo, .int .i64 bu, .bool st] 25)) := ((Kept.refl _ _).alloc _).alloc _
  simp only [World.size_alloc] at hby
  generalize isCfg sc od th fu de = p at *
  generalize isAsk mo bu = q at *
  have H1 := Lib.hid h1
  have H2 := Lib.hid h2
  clear h1 h2
  go_enter Tryd.func23, Tryd.ntmps23
  go_upto_region 1 with fail
  generalize (w.alloc (.cells #[.int .i64 sc, .int .i64 od, .int .i64 th, .int .i64 fu, .int .i64 de] 23)).alloc (.cells #[.int .i64 mo, .int .i64 bu, .bool st] 25) = w0 at *
  have c0 : w0.cell? ⟨w.heap.size, 0, none⟩ = some (.int .i64 sc) := hbx.cell 0
  have c1 : w0.cell? ⟨w.heap.size, 1, none⟩ = some (.int .i64 od) := hbx.cell 1
  have c2 : w0.cell? ⟨w.heap.size, 2, none⟩ = some (.int .i64 th) := hbx.cell 2
  have c3 : w0.cell? ⟨w.heap.size, 3, none⟩ = some (.int .i64 fu) := hbx.cell 3
  have c4 : w0.cell? ⟨w.heap.size, 4, none⟩ = some (.int .i64 de) := hbx.cell 4
  cases p with
  | false =>
    go_wp2_with fail
    refine (H1.out _).mono ?_
    rintro e w1 ⟨rfl, k1⟩
    have hk1 := hk.trans k1 (fun _ _ f => f)
    simp only [Bool.false_eq_true, if_false]
    clear c0 c1 c2 c3 c4 hbx hby
    go_wp2_with fail
    go_ret
    exact ⟨rfl, hk1⟩
  | true =>
    go_wp2_with fail
    refine (H1.out _).mono ?_
    rintro e w1 ⟨rfl, k1⟩
    have hk1 := hk.trans k1 (fun _ _ f => f)
    have hy1 := hby.kept k1 id
    have d0 : w1.cell? ⟨w.heap.size + 1, 0, none⟩ = some (.int .i64 mo) := hy1.cell 0
    have d1 : w1.cell? ⟨w.heap.size + 1, 1, none⟩ = some (.int .i64 bu) := hy1.cell 1
    have d2 : w1.cell? ⟨w.heap.size + 1, 2, none⟩ = some (.bool st) := hy1.cell 2
    simp only [if_true]
    clear c0 c1 c2 c3 c4 hbx hby k1
    go_wp2_with fail
    refine (H2.out _ _).mono ?_
    rintro e w2 ⟨rfl, k2⟩
    have hk2 := hk1.trans k2 (fun _ _ f => f)
    clear d0 d1 d2 hy1 k2
    cases q <;> simp only [Bool.false_eq_true, if_false, if_true]
    all_goals
      go_wp2_with fail
      go_ret
      exact ⟨rfl, hk2⟩
end Go.Proofs.YtknpjhmgkogmaaaDoor.Line
