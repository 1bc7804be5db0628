/-
  ConfChecks answers true, whatever the config and the ask are. Condition: the seven variables that the row lists lie as their initialisers lay them.
-/
import Derived.Test.YtknpjhmgkogmaaaDoorConf5
import Derived.Test.YtknpjhmgkogmaaaDoorConf6
import Derived.Test.YtknpjhmgkogmaaaDoorConf8
import Derived.Test.YtknpjhmgkogmaaaDoorOpenAsk
import Derived.BigQuiet
import Derived.Lay
import Derived.MakeChecks
import Derived.Test.YtknpjhmgkogmaaaDoorDoor
import Derived.Test.YtknpjhmgkogmaaaDoorOpen
import Derived.Test.YtknpjhmgkogmaaaDoorCards
import Derived.Test.YtknpjhmgkogmaaaDoorTie
set_option linter.unusedVariables false
namespace Go.Proofs.YtknpjhmgkogmaaaDoor.confChecks
open Go.RowKit Go.Sort Go.Proofs.YtknpjhmgkogmaaaDoor.Own Go.Proofs.YtknpjhmgkogmaaaDoor.Conv Go.Proofs.YtknpjhmgkogmaaaDoor.Line Go.Proofs.YtknpjhmgkogmaaaDoor.Calm Go.Proofs.YtknpjhmgkogmaaaDoor.Oct

theorem cells5 {w : World} {b : Nat} {x0 x1 x2 x3 x4 : Value} {t : TypeId} (h : Box w b #[x0, x1, x2, x3, x4] t) : w.cell? ⟨b, 0, none⟩ = some x0 ∧ w.cell? ⟨b, 1, none⟩ = some x1 ∧ w.cell? ⟨b, 2, none⟩ = some x2 ∧ w.cell? ⟨b, 3, none⟩ = some x3 ∧ w.cell? ⟨b, 4, none⟩ = some x4 := ⟨h.cell 0, h.cell 1, h.cell 2, h.cell 3, h.cell 4⟩
theorem cells3 {w : World} {b : Nat} {x0 x1 x2 : Value} {t : TypeId} (h : Box w b #[x0, x1, x2] t) : w.cell? ⟨b, 0, none⟩ = some x0 ∧ w.cell? ⟨b, 1, none⟩ = some x1 ∧ w.cell? ⟨b, 2, none⟩ = some x2 := ⟨h.cell 0, h.cell 1, h.cell 2⟩
theorem kw5 {w : World} {b : Nat} {x0 x1 x2 x3 x4 : Value} {t : TypeId} (h : Box w b #[x0, x1, x2, x3, x4] t) : (∀ p : KW w, p.w.cell? ⟨b, 0, none⟩ = some x0) ∧ (∀ p : KW w, p.w.cell? ⟨b, 1, none⟩ = some x1) ∧ (∀ p : KW w, p.w.cell? ⟨b, 2, none⟩ = some x2) ∧ (∀ p : KW w, p.w.cell? ⟨b, 3, none⟩ = some x3) ∧ (∀ p : KW w, p.w.cell? ⟨b, 4, none⟩ = some x4) :=
  ⟨KW.old (h.cell 0) h.lt, KW.old (h.cell 1) h.lt, KW.old (h.cell 2) h.lt, KW.old (h.cell 3) h.lt, KW.old (h.cell 4) h.lt⟩

theorem beB_oct (x n : Nat) : ∀ c ∈ beB x n, 0 ≤ c ∧ c < 256 := by
  intro c hc
  simp only [beB, List.mem_map] at hc
  obtain ⟨k, _, rfl⟩ := hc
  omega
theorem putL_oct (sc od th fu de mo bu : Int) (st : Bool) : ∀ c ∈ putL sc od th fu de mo bu st, 0 ≤ c ∧ c < 256 := by
  intro c hc
  unfold putL confB at hc
  rcases List.mem_append.1 hc with hc | hc
  · obtain ⟨k, _, h⟩ := List.mem_flatMap.1 hc
    exact beB_oct _ _ c h
  · rw [List.mem_singleton] at hc
    subst hc
    cases st <;> decide

set_option maxRecDepth 100000 in
set_option maxHeartbeats 8000000 in
theorem body_ff (w : World) (hT : Door.Tabs w) (sc od th fu de mo bu : Int) (st : Bool) (h1 : isCfg sc od th fu de = false) (h2 : isAsk mo bu = false) :
    Calls Tryd.prog 3 #[.agg #[.int .i64 sc, .int .i64 od, .int .i64 th, .int .i64 fu, .int .i64 de], .agg #[.int .i64 mo, .int .i64 bu, .bool st]] w fun e w' => e = .returned (.bool true) ∧ Below w.heap.size w w' := by
  have hR1 := refcheck_is sc od th fu de
  have hR2 := refcheckask_is mo bu st
  have hC1 := check_is sc od th fu de
  have hC2 := checkask_is mo bu st
  simp only [h1, h2, Bool.false_eq_true, if_false] at hR1 hR2 hC1 hC2
  have HR1 := Lib.hid hR1
  have HR2 := Lib.hid hR2
  have HC1 := Lib.hid hC1
  have HC2 := Lib.hid hC2
  have hx0 := (Box.new w #[.int .i64 sc, .int .i64 od, .int .i64 th, .int .i64 fu, .int .i64 de] 23).alloc (.cells #[.int .i64 mo, .int .i64 bu, .bool st] 25)
  have hy0 := Box.new (w.alloc (.cells #[.int .i64 sc, .int .i64 od, .int .i64 th, .int .i64 fu, .int .i64 de] 23)) #[.int .i64 mo, .int .i64 bu, .bool st] 25
  have hk0 : Kept No w ((w.alloc (.cells #[.int .i64 sc, .int .i64 od, .int .i64 th, .int .i64 fu, .int .i64 de] 23)).alloc (.cells #[.int .i64 mo, .int .i64 bu, .bool st] 25)) := ((Kept.refl _ _).alloc _).alloc _
  simp only [World.size_alloc] at hy0
  have hno : (isCfg sc od th fu de && isAsk mo bu) = false := by rw [h1, h2]; rfl
  have HPut := Lib.hid (fun w => confput_no sc od th fu de mo bu st hno w)
  have HLine := Lib.hid (fun w => line_no sc od th fu de mo bu st hno w)
  have HT := Lib.hid hT
  clear hR1 hR2 hC1 hC2 h1 h2 hT hno
  go_enter Tryd.func3, Tryd.ntmps3
  go_upto_region 1 with fail
  generalize (w.alloc _).alloc _ = w0 at *
  obtain ⟨c0, c1, c2, c3, c4⟩ := cells5 hx0
  obtain ⟨d0, d1, d2⟩ := cells3 hy0
  go_wp2_with fail
  refine (alive_is w0 (HT.out.kept hk0)).mono ?_
  rintro e w1 ⟨rfl, k1⟩
  have hx1 := hx0.kept k1 id
  have hy1 := hy0.kept k1 id
  have hk1 := hk0.trans k1 (fun _ _ f => f)
  clear c0 c1 c2 c3 c4 d0 d1 d2 hx0 hy0 hk0
  clear k1
  obtain ⟨c0, c1, c2, c3, c4⟩ := cells5 hx1
  obtain ⟨d0, d1, d2⟩ := cells3 hy1
  clear c0 c1 c2 c3 c4 d0 d1 d2
  go_upto_region 3 with fail
  obtain ⟨c0, c1, c2, c3, c4⟩ := kw5 hx1
  obtain ⟨d0, d1, d2⟩ := KW.box3 hy1
  refine wp_region_calm (by kernel_rfl) (by kernel_rfl) ?_
  repeat (go_big_quiet_step (first
    | (go_at_call 8; with_reducible exact calls_of _ (HR1.out _))
    | (go_at_call 9; with_reducible exact calls_of _ (HR2.out _))))
  refine wpQuiet_nil ?_
  rintro _ ⟨p, rfl⟩
  have hx2 := hx1.kept p.h id
  have hy2 := hy1.kept p.h id
  have hk2 := hk1.trans p.h (fun _ _ f => f)
  clear c0 c1 c2 c3 c4 d0 d1 d2 hx1 hy1 hk1 HR1 HR2
  generalize p.w = w2 at *
  obtain ⟨c0, c1, c2, c3, c4⟩ := cells5 hx2
  obtain ⟨d0, d1, d2⟩ := cells3 hy2
  go_wp2_with fail
  refine (HPut.out w2).mono ?_
  rintro e w3 ⟨rfl, k3⟩
  have hx3 := hx2.kept k3 id
  have hy3 := hy2.kept k3 id
  have hk3 := hk2.trans k3 (fun _ _ f => f)
  clear c0 c1 c2 c3 c4 d0 d1 d2 hx2 hy2 hk2
  clear k3
  obtain ⟨c0, c1, c2, c3, c4⟩ := cells5 hx3
  obtain ⟨d0, d1, d2⟩ := cells3 hy3
  go_wp2_with fail
  refine (HLine.out w3).mono ?_
  rintro e w4 ⟨rfl, k4⟩
  have hx4 := hx3.kept k4 id
  have hy4 := hy3.kept k4 id
  have hk4 := hk3.trans k4 (fun _ _ f => f)
  clear c0 c1 c2 c3 c4 d0 d1 d2 hx3 hy3 hk3
  clear k4
  obtain ⟨c0, c1, c2, c3, c4⟩ := cells5 hx4
  obtain ⟨d0, d1, d2⟩ := cells3 hy4
  go_wp2_with fail
  refine (HC1.out w4).mono ?_
  rintro e w5 ⟨rfl, k5⟩
  have hx5 := hx4.kept k5 id
  have hy5 := hy4.kept k5 id
  have hk5 := hk4.trans k5 (fun _ _ f => f)
  clear c0 c1 c2 c3 c4 d0 d1 d2 hx4 hy4 hk4
  clear k5
  obtain ⟨c0, c1, c2, c3, c4⟩ := cells5 hx5
  obtain ⟨d0, d1, d2⟩ := cells3 hy5
  go_wp2_with fail
  refine (HC2.out w5).mono ?_
  rintro e w6 ⟨rfl, k6⟩
  have hx6 := hx5.kept k6 id
  have hy6 := hy5.kept k6 id
  have hk6 := hk5.trans k6 (fun _ _ f => f)
  clear c0 c1 c2 c3 c4 d0 d1 d2 hx5 hy5 hk5
  clear k6
  obtain ⟨c0, c1, c2, c3, c4⟩ := cells5 hx6
  obtain ⟨d0, d1, d2⟩ := cells3 hy6
  go_wp2_with fail
  refine (HC1.out w6).mono ?_
  rintro e w7 ⟨rfl, k7⟩
  have hx7 := hx6.kept k7 id
  have hy7 := hy6.kept k7 id
  have hk7 := hk6.trans k7 (fun _ _ f => f)
  clear c0 c1 c2 c3 c4 d0 d1 d2 hx6 hy6 hk6
  clear k7
  obtain ⟨c0, c1, c2, c3, c4⟩ := cells5 hx7
  obtain ⟨d0, d1, d2⟩ := cells3 hy7
  go_wp2_with fail
  refine (HC2.out w7).mono ?_
  rintro e w8 ⟨rfl, k8⟩
  have hx8 := hx7.kept k8 id
  have hy8 := hy7.kept k8 id
  have hk8 := hk7.trans k8 (fun _ _ f => f)
  clear c0 c1 c2 c3 c4 d0 d1 d2 hx7 hy7 hk7
  clear k8
  obtain ⟨c0, c1, c2, c3, c4⟩ := cells5 hx8
  obtain ⟨d0, d1, d2⟩ := cells3 hy8
  go_wp2_with fail
  go_ret
  exact ⟨rfl, hk8.below (Nat.le_refl _) (fun _ _ => id)⟩

set_option maxRecDepth 100000 in
set_option maxHeartbeats 8000000 in
theorem body_ft (w : World) (hT : Door.Tabs w) (sc od th fu de mo bu : Int) (st : Bool) (h1 : isCfg sc od th fu de = false) (h2 : isAsk mo bu = true) :
    Calls Tryd.prog 3 #[.agg #[.int .i64 sc, .int .i64 od, .int .i64 th, .int .i64 fu, .int .i64 de], .agg #[.int .i64 mo, .int .i64 bu, .bool st]] w fun e w' => e = .returned (.bool true) ∧ Below w.heap.size w w' := by
  have hR1 := refcheck_is sc od th fu de
  have hR2 := refcheckask_is mo bu st
  have hC1 := check_is sc od th fu de
  have hC2 := checkask_is mo bu st
  simp only [h1, h2, if_true, Bool.false_eq_true, if_false] at hR1 hR2 hC1 hC2
  have HR1 := Lib.hid hR1
  have HR2 := Lib.hid hR2
  have HC1 := Lib.hid hC1
  have HC2 := Lib.hid hC2
  have hx0 := (Box.new w #[.int .i64 sc, .int .i64 od, .int .i64 th, .int .i64 fu, .int .i64 de] 23).alloc (.cells #[.int .i64 mo, .int .i64 bu, .bool st] 25)
  have hy0 := Box.new (w.alloc (.cells #[.int .i64 sc, .int .i64 od, .int .i64 th, .int .i64 fu, .int .i64 de] 23)) #[.int .i64 mo, .int .i64 bu, .bool st] 25
  have hk0 : Kept No w ((w.alloc (.cells #[.int .i64 sc, .int .i64 od, .int .i64 th, .int .i64 fu, .int .i64 de] 23)).alloc (.cells #[.int .i64 mo, .int .i64 bu, .bool st] 25)) := ((Kept.refl _ _).alloc _).alloc _
  simp only [World.size_alloc] at hy0
  have hno : (isCfg sc od th fu de && isAsk mo bu) = false := by rw [h1, h2]; rfl
  have HPut := Lib.hid (fun w => confput_no sc od th fu de mo bu st hno w)
  have HLine := Lib.hid (fun w => line_no sc od th fu de mo bu st hno w)
  have HT := Lib.hid hT
  clear hR1 hR2 hC1 hC2 h1 h2 hT hno
  go_enter Tryd.func3, Tryd.ntmps3
  go_upto_region 1 with fail
  generalize (w.alloc _).alloc _ = w0 at *
  obtain ⟨c0, c1, c2, c3, c4⟩ := cells5 hx0
  obtain ⟨d0, d1, d2⟩ := cells3 hy0
  go_wp2_with fail
  refine (alive_is w0 (HT.out.kept hk0)).mono ?_
  rintro e w1 ⟨rfl, k1⟩
  have hx1 := hx0.kept k1 id
  have hy1 := hy0.kept k1 id
  have hk1 := hk0.trans k1 (fun _ _ f => f)
  clear c0 c1 c2 c3 c4 d0 d1 d2 hx0 hy0 hk0
  clear k1
  obtain ⟨c0, c1, c2, c3, c4⟩ := cells5 hx1
  obtain ⟨d0, d1, d2⟩ := cells3 hy1
  clear c0 c1 c2 c3 c4 d0 d1 d2
  go_upto_region 3 with fail
  obtain ⟨c0, c1, c2, c3, c4⟩ := kw5 hx1
  obtain ⟨d0, d1, d2⟩ := KW.box3 hy1
  refine wp_region_calm (by kernel_rfl) (by kernel_rfl) ?_
  repeat (go_big_quiet_step (first
    | (go_at_call 8; with_reducible exact calls_of _ (HR1.out _))
    | (go_at_call 9; with_reducible exact calls_of _ (HR2.out _))))
  refine wpQuiet_nil ?_
  rintro _ ⟨p, rfl⟩
  have hx2 := hx1.kept p.h id
  have hy2 := hy1.kept p.h id
  have hk2 := hk1.trans p.h (fun _ _ f => f)
  clear c0 c1 c2 c3 c4 d0 d1 d2 hx1 hy1 hk1 HR1 HR2
  generalize p.w = w2 at *
  obtain ⟨c0, c1, c2, c3, c4⟩ := cells5 hx2
  obtain ⟨d0, d1, d2⟩ := cells3 hy2
  go_wp2_with fail
  refine (HPut.out w2).mono ?_
  rintro e w3 ⟨rfl, k3⟩
  have hx3 := hx2.kept k3 id
  have hy3 := hy2.kept k3 id
  have hk3 := hk2.trans k3 (fun _ _ f => f)
  clear c0 c1 c2 c3 c4 d0 d1 d2 hx2 hy2 hk2
  clear k3
  obtain ⟨c0, c1, c2, c3, c4⟩ := cells5 hx3
  obtain ⟨d0, d1, d2⟩ := cells3 hy3
  go_wp2_with fail
  refine (HLine.out w3).mono ?_
  rintro e w4 ⟨rfl, k4⟩
  have hx4 := hx3.kept k4 id
  have hy4 := hy3.kept k4 id
  have hk4 := hk3.trans k4 (fun _ _ f => f)
  clear c0 c1 c2 c3 c4 d0 d1 d2 hx3 hy3 hk3
  clear k4
  obtain ⟨c0, c1, c2, c3, c4⟩ := cells5 hx4
  obtain ⟨d0, d1, d2⟩ := cells3 hy4
  go_wp2_with fail
  refine (HC1.out w4).mono ?_
  rintro e w5 ⟨rfl, k5⟩
  have hx5 := hx4.kept k5 id
  have hy5 := hy4.kept k5 id
  have hk5 := hk4.trans k5 (fun _ _ f => f)
  clear c0 c1 c2 c3 c4 d0 d1 d2 hx4 hy4 hk4
  clear k5
  obtain ⟨c0, c1, c2, c3, c4⟩ := cells5 hx5
  obtain ⟨d0, d1, d2⟩ := cells3 hy5
  go_wp2_with fail
  refine (HC2.out w5).mono ?_
  rintro e w6 ⟨rfl, k6⟩
  have hx6 := hx5.kept k6 id
  have hy6 := hy5.kept k6 id
  have hk6 := hk5.trans k6 (fun _ _ f => f)
  clear c0 c1 c2 c3 c4 d0 d1 d2 hx5 hy5 hk5
  clear k6
  obtain ⟨c0, c1, c2, c3, c4⟩ := cells5 hx6
  obtain ⟨d0, d1, d2⟩ := cells3 hy6
  go_wp2_with fail
  refine (HC1.out w6).mono ?_
  rintro e w7 ⟨rfl, k7⟩
  have hx7 := hx6.kept k7 id
  have hy7 := hy6.kept k7 id
  have hk7 := hk6.trans k7 (fun _ _ f => f)
  clear c0 c1 c2 c3 c4 d0 d1 d2 hx6 hy6 hk6
  clear k7
  obtain ⟨c0, c1, c2, c3, c4⟩ := cells5 hx7
  obtain ⟨d0, d1, d2⟩ := cells3 hy7
  go_wp2_with fail
  go_ret
  exact ⟨rfl, hk7.below (Nat.le_refl _) (fun _ _ => id)⟩

set_option maxRecDepth 100000 in
set_option maxHeartbeats 8000000 in
theorem body_tf (w : World) (hT : Door.Tabs w) (sc od th fu de mo bu : Int) (st : Bool) (h1 : isCfg sc od th fu de = true) (h2 : isAsk mo bu = false) :
    Calls Tryd.prog 3 #[.agg #[.int .i64 sc, .int .i64 od, .int .i64 th, .int .i64 fu, .int .i64 de], .agg #[.int .i64 mo, .int .i64 bu, .bool st]] w fun e w' => e = .returned (.bool true) ∧ Below w.heap.size w w' := by
  have hR1 := refcheck_is sc od th fu de
  have hR2 := refcheckask_is mo bu st
  have hC1 := check_is sc od th fu de
  have hC2 := checkask_is mo bu st
  simp only [h1, h2, if_true, Bool.false_eq_true, if_false] at hR1 hR2 hC1 hC2
  have HR1 := Lib.hid hR1
  have HR2 := Lib.hid hR2
  have HC1 := Lib.hid hC1
  have HC2 := Lib.hid hC2
  have hx0 := (Box.new w #[.int .i64 sc, .int .i64 od, .int .i64 th, .int .i64 fu, .int .i64 de] 23).alloc (.cells #[.int .i64 mo, .int .i64 bu, .bool st] 25)
  have hy0 := Box.new (w.alloc (.cells #[.int .i64 sc, .int .i64 od, .int .i64 th, .int .i64 fu, .int .i64 de] 23)) #[.int .i64 mo, .int .i64 bu, .bool st] 25
  have hk0 : Kept No w ((w.alloc (.cells #[.int .i64 sc, .int .i64 od, .int .i64 th, .int .i64 fu, .int .i64 de] 23)).alloc (.cells #[.int .i64 mo, .int .i64 bu, .bool st] 25)) := ((Kept.refl _ _).alloc _).alloc _
  simp only [World.size_alloc] at hy0
  have hno : (isCfg sc od th fu de && isAsk mo bu) = false := by rw [h1, h2]; rfl
  have HPut := Lib.hid (fun w => confput_no sc od th fu de mo bu st hno w)
  have HLine := Lib.hid (fun w => line_no sc od th fu de mo bu st hno w)
  have HT := Lib.hid hT
  clear hR1 hR2 hC1 hC2 h1 h2 hT hno
  go_enter Tryd.func3, Tryd.ntmps3
  go_upto_region 1 with fail
  generalize (w.alloc _).alloc _ = w0 at *
  obtain ⟨c0, c1, c2, c3, c4⟩ := cells5 hx0
  obtain ⟨d0, d1, d2⟩ := cells3 hy0
  go_wp2_with fail
  refine (alive_is w0 (HT.out.kept hk0)).mono ?_
  rintro e w1 ⟨rfl, k1⟩
  have hx1 := hx0.kept k1 id
  have hy1 := hy0.kept k1 id
  have hk1 := hk0.trans k1 (fun _ _ f => f)
  clear c0 c1 c2 c3 c4 d0 d1 d2 hx0 hy0 hk0
  clear k1
  obtain ⟨c0, c1, c2, c3, c4⟩ := cells5 hx1
  obtain ⟨d0, d1, d2⟩ := cells3 hy1
  clear c0 c1 c2 c3 c4 d0 d1 d2
  go_upto_region 3 with fail
  obtain ⟨c0, c1, c2, c3, c4⟩ := kw5 hx1
  obtain ⟨d0, d1, d2⟩ := KW.box3 hy1
  refine wp_region_calm (by kernel_rfl) (by kernel_rfl) ?_
  repeat (go_big_quiet_step (first
    | (go_at_call 8; with_reducible exact calls_of _ (HR1.out _))
    | (go_at_call 9; with_reducible exact calls_of _ (HR2.out _))))
  refine wpQuiet_nil ?_
  rintro _ ⟨p, rfl⟩
  have hx2 := hx1.kept p.h id
  have hy2 := hy1.kept p.h id
  have hk2 := hk1.trans p.h (fun _ _ f => f)
  clear c0 c1 c2 c3 c4 d0 d1 d2 hx1 hy1 hk1 HR1 HR2
  generalize p.w = w2 at *
  obtain ⟨c0, c1, c2, c3, c4⟩ := cells5 hx2
  obtain ⟨d0, d1, d2⟩ := cells3 hy2
  go_wp2_with fail
  refine (HPut.out w2).mono ?_
  rintro e w3 ⟨rfl, k3⟩
  have hx3 := hx2.kept k3 id
  have hy3 := hy2.kept k3 id
  have hk3 := hk2.trans k3 (fun _ _ f => f)
  clear c0 c1 c2 c3 c4 d0 d1 d2 hx2 hy2 hk2
  clear k3
  obtain ⟨c0, c1, c2, c3, c4⟩ := cells5 hx3
  obtain ⟨d0, d1, d2⟩ := cells3 hy3
  go_wp2_with fail
  refine (HLine.out w3).mono ?_
  rintro e w4 ⟨rfl, k4⟩
  have hx4 := hx3.kept k4 id
  have hy4 := hy3.kept k4 id
  have hk4 := hk3.trans k4 (fun _ _ f => f)
  clear c0 c1 c2 c3 c4 d0 d1 d2 hx3 hy3 hk3
  clear k4
  obtain ⟨c0, c1, c2, c3, c4⟩ := cells5 hx4
  obtain ⟨d0, d1, d2⟩ := cells3 hy4
  go_wp2_with fail
  refine (HC1.out w4).mono ?_
  rintro e w5 ⟨rfl, k5⟩
  have hx5 := hx4.kept k5 id
  have hy5 := hy4.kept k5 id
  have hk5 := hk4.trans k5 (fun _ _ f => f)
  clear c0 c1 c2 c3 c4 d0 d1 d2 hx4 hy4 hk4
  clear k5
  obtain ⟨c0, c1, c2, c3, c4⟩ := cells5 hx5
  obtain ⟨d0, d1, d2⟩ := cells3 hy5
  go_wp2_with fail
  refine (HC2.out w5).mono ?_
  rintro e w6 ⟨rfl, k6⟩
  have hx6 := hx5.kept k6 id
  have hy6 := hy5.kept k6 id
  have hk6 := hk5.trans k6 (fun _ _ f => f)
  clear c0 c1 c2 c3 c4 d0 d1 d2 hx5 hy5 hk5
  clear k6
  obtain ⟨c0, c1, c2, c3, c4⟩ := cells5 hx6
  obtain ⟨d0, d1, d2⟩ := cells3 hy6
  go_wp2_with fail
  refine (HC2.out w6).mono ?_
  rintro e w7 ⟨rfl, k7⟩
  have hx7 := hx6.kept k7 id
  have hy7 := hy6.kept k7 id
  have hk7 := hk6.trans k7 (fun _ _ f => f)
  clear c0 c1 c2 c3 c4 d0 d1 d2 hx6 hy6 hk6
  clear k7
  obtain ⟨c0, c1, c2, c3, c4⟩ := cells5 hx7
  obtain ⟨d0, d1, d2⟩ := cells3 hy7
  go_wp2_with fail
  go_ret
  exact ⟨rfl, hk7.below (Nat.le_refl _) (fun _ _ => id)⟩

set_option maxRecDepth 100000 in
set_option maxHeartbeats 8000000 in
theorem body_tt (w : World) (hT : Door.Tabs w) (sc od th fu de mo bu : Int) (st : Bool) (h1 : isCfg sc od th fu de = true) (h2 : isAsk mo bu = true) :
    Calls Tryd.prog 3 #[.agg #[.int .i64 sc, .int .i64 od, .int .i64 th, .int .i64 fu, .int .i64 de], .agg #[.int .i64 mo, .int .i64 bu, .bool st]] w fun e w' => e = .returned (.bool true) ∧ Below w.heap.size w w' := by
  have hR1 := refcheck_is sc od th fu de
  have hR2 := refcheckask_is mo bu st
  have hC1 := check_is sc od th fu de
  have hC2 := checkask_is mo bu st
  simp only [h1, h2, if_true] at hR1 hR2 hC1 hC2
  have HR1 := Lib.hid hR1
  have HR2 := Lib.hid hR2
  have HC1 := Lib.hid hC1
  have HC2 := Lib.hid hC2
  have hx0 := (Box.new w #[.int .i64 sc, .int .i64 od, .int .i64 th, .int .i64 fu, .int .i64 de] 23).alloc (.cells #[.int .i64 mo, .int .i64 bu, .bool st] 25)
  have hy0 := Box.new (w.alloc (.cells #[.int .i64 sc, .int .i64 od, .int .i64 th, .int .i64 fu, .int .i64 de] 23)) #[.int .i64 mo, .int .i64 bu, .bool st] 25
  have hk0 : Kept No w ((w.alloc (.cells #[.int .i64 sc, .int .i64 od, .int .i64 th, .int .i64 fu, .int .i64 de] 23)).alloc (.cells #[.int .i64 mo, .int .i64 bu, .bool st] 25)) := ((Kept.refl _ _).alloc _).alloc _
  simp only [World.size_alloc] at hy0
  have HPut := Lib.hid (fun w => confput_yes sc od th fu de mo bu st h1 h2 w)
  have HLine := Lib.hid (fun w hT => line_yes sc od th fu de mo bu st h1 h2 w hT)
  have HRPut := Lib.hid (fun w => refput_is sc od th fu de mo bu st h1 h2 w)
  have HRLine := Lib.hid (fun w => refline_is sc od th fu de mo bu st h1 h2 w)
  have HT := Lib.hid hT
  clear hR1 hR2 hC1 hC2 h1 h2 hT
  go_enter Tryd.func3, Tryd.ntmps3
  go_upto_region 1 with fail
  generalize (w.alloc _).alloc _ = w0 at *
  obtain ⟨c0, c1, c2, c3, c4⟩ := cells5 hx0
  obtain ⟨d0, d1, d2⟩ := cells3 hy0
  go_wp2_with fail
  refine (alive_is w0 (HT.out.kept hk0)).mono ?_
  rintro e w1 ⟨rfl, k1⟩
  have hx1 := hx0.kept k1 id
  have hy1 := hy0.kept k1 id
  have hk1 := hk0.trans k1 (fun _ _ f => f)
  clear c0 c1 c2 c3 c4 d0 d1 d2 hx0 hy0 hk0
  clear k1
  obtain ⟨c0, c1, c2, c3, c4⟩ := cells5 hx1
  obtain ⟨d0, d1, d2⟩ := cells3 hy1
  clear c0 c1 c2 c3 c4 d0 d1 d2
  go_upto_region 3 with fail
  obtain ⟨c0, c1, c2, c3, c4⟩ := kw5 hx1
  obtain ⟨d0, d1, d2⟩ := KW.box3 hy1
  refine wp_region_calm (by kernel_rfl) (by kernel_rfl) ?_
  repeat (go_big_quiet_step (first
    | (go_at_call 8; with_reducible exact calls_of _ (HR1.out _))
    | (go_at_call 9; with_reducible exact calls_of _ (HR2.out _))))
  refine wpQuiet_nil ?_
  rintro _ ⟨p, rfl⟩
  have hx2 := hx1.kept p.h id
  have hy2 := hy1.kept p.h id
  have hk2 := hk1.trans p.h (fun _ _ f => f)
  clear c0 c1 c2 c3 c4 d0 d1 d2 hx1 hy1 hk1 HR1 HR2
  generalize p.w = w2 at *
  obtain ⟨c0, c1, c2, c3, c4⟩ := cells5 hx2
  obtain ⟨d0, d1, d2⟩ := cells3 hy2
  go_wp2_with fail
  refine (HPut.out w2).mono ?_
  rintro e w3 ⟨vb, nb, rfl, hs, k3⟩
  have hx3 := hx2.kept k3 id
  have hy3 := hy2.kept k3 id
  have hk3 := hk2.trans k3 (fun _ _ f => f)
  clear c0 c1 c2 c3 c4 d0 d1 d2 hx2 hy2 hk2
  clear k3
  obtain ⟨c0, c1, c2, c3, c4⟩ := cells5 hx3
  obtain ⟨d0, d1, d2⟩ := cells3 hy3
  obtain ⟨_, av, cv, rfl, _, _, _, _⟩ := hs.rd
  have hs := Lib.hid hs
  go_wp2_with fail
  refine (HLine.out w3 (HT.out.kept hk3)).mono ?_
  rintro e w4 ⟨rfl, k4⟩
  have hx4 := hx3.kept k4 id
  have hy4 := hy3.kept k4 id
  have hk4 := hk3.trans k4 (fun _ _ f => f)
  clear c0 c1 c2 c3 c4 d0 d1 d2 hx3 hy3 hk3
  have hs := Lib.hid (hs.out.kept k4 (fun _ _ f => f))
  clear k4
  obtain ⟨c0, c1, c2, c3, c4⟩ := cells5 hx4
  obtain ⟨d0, d1, d2⟩ := cells3 hy4
  go_wp2_with fail
  refine (HC1.out w4).mono ?_
  rintro e w5 ⟨rfl, k5⟩
  have hx5 := hx4.kept k5 id
  have hy5 := hy4.kept k5 id
  have hk5 := hk4.trans k5 (fun _ _ f => f)
  clear c0 c1 c2 c3 c4 d0 d1 d2 hx4 hy4 hk4
  have hs := Lib.hid (hs.out.kept k5 (fun _ _ f => f))
  clear k5
  obtain ⟨c0, c1, c2, c3, c4⟩ := cells5 hx5
  obtain ⟨d0, d1, d2⟩ := cells3 hy5
  go_wp2_with fail
  refine (HC2.out w5).mono ?_
  rintro e w6 ⟨rfl, k6⟩
  have hx6 := hx5.kept k6 id
  have hy6 := hy5.kept k6 id
  have hk6 := hk5.trans k6 (fun _ _ f => f)
  clear c0 c1 c2 c3 c4 d0 d1 d2 hx5 hy5 hk5
  have hs := Lib.hid (hs.out.kept k6 (fun _ _ f => f))
  clear k6
  obtain ⟨c0, c1, c2, c3, c4⟩ := cells5 hx6
  obtain ⟨d0, d1, d2⟩ := cells3 hy6
  clear c0 c1 c2 c3 c4 d0 d1 d2
  go_upto_region 10 with fail
  obtain ⟨s1, hs1⟩ : ∃ s : ByteArray, (⟨(u8s (putL sc od th fu de mo bu st)).toArray⟩ : ByteArray) = s := ⟨_, rfl⟩
  obtain ⟨s2, hs2⟩ : ∃ s : ByteArray, (⟨(Lib.join (confW sc od th fu de mo bu st) [32]).toArray⟩ : ByteArray) = s := ⟨_, rfl⟩
  have HRL := HRLine.out
  rw [hs2] at HRL ⊢
  have HRL2 := Lib.hid HRL
  have HCV : Hid (∀ (w : World) (v : Value) (n : Nat) (B : Nat), Seg w B 5 1 v n (bv (putL sc od th fu de mo bu st)) → ∀ p : KW w, (convert 29 9 v).run Tryd.prog p.w = .ok (.string s1) p.w) := Lib.hid (fun w v n B hs p => by
    rw [← hs1]
    refine conv_string p.w _ _ 5 v n _ Tryd.underlying29 Tryd.underlying5 Tryd.underlying9 ?_
    rw [u8s_cells _ (putL_oct sc od th fu de mo bu st)]
    exact (hs.kept p.h (fun _ _ f => f)).rd)
  have hcv := HCV.out _ _ _ _ hs.out
  obtain ⟨c0, c1, c2, c3, c4⟩ := kw5 hx6
  obtain ⟨d0, d1, d2⟩ := KW.box3 hy6
  clear HRL hs1 hs2 HRLine HLine HC1 HC2 HPut
  refine wp_region_dyn ([0, 1, 2, 3] ++ 4 :: ([5, 6, 7, 8, 9, 10, 11, 12, 13, 14] ++ 15 :: ([16, 17, 18, 19, 20, 21, 22] ++ []))) (by kernel_rfl) (by kernel_rfl) ?_
  refine dyn_reads _ _ (by kernel_rfl) ?_
  simp only [sel, List.filterMap_cons, List.filterMap_nil, List.getElem?_cons_succ, List.getElem?_cons_zero]
  repeat (show wpQuiet _ _ _ _ (_ :: _) _; go_big_quiet_step (fail))
  refine wpQuiet_nil ?_
  refine dyn_fn 14 #[.agg #[.int .i64 sc, .int .i64 od, .int .i64 th, .int .i64 fu, .int .i64 de], .agg #[.int .i64 mo, .int .i64 bu, .bool st]] rfl rfl rfl (by intro w; go_simp) ?_
  intro p
  refine (HRPut.out p.w).mono ?_
  rintro e wP ⟨vr, nr, rfl, hsr, kP⟩
  have hxP := hx6.kept (p.h.trans kP (fun _ _ f => f)) id
  have hyP := hy6.kept (p.h.trans kP (fun _ _ f => f)) id
  have hkP := hk6.trans (p.h.trans kP (fun _ _ f => f)) (fun _ _ f => f)
  refine ⟨_, rfl, kP, ?_⟩
  simp only [Act.put, List.setIfInBounds_toArray, List.set]
  have hcr := HCV.out _ _ _ _ hsr
  clear c0 c1 c2 c3 c4 d0 d1 d2 hcv
  obtain ⟨c0, c1, c2, c3, c4⟩ := kw5 hxP
  obtain ⟨d0, d1, d2⟩ := KW.box3 hyP
  refine dyn_reads _ _ (by kernel_rfl) ?_
  simp only [sel, List.filterMap_cons, List.filterMap_nil, List.getElem?_cons_succ, List.getElem?_cons_zero]
  repeat (show wpQuiet _ _ _ _ (_ :: _) _; go_big_quiet_step (fail))
  refine wpQuiet_nil ?_
  refine dyn_fn_g 15 #[.agg #[.int .i64 sc, .int .i64 od, .int .i64 th, .int .i64 fu, .int .i64 de], .agg #[.int .i64 mo, .int .i64 bu, .bool st]] rfl rfl (by first | rfl | kernel_rfl) (by intro w; go_simp) ?_
  intro p
  refine (HRL2.out p.w).mono ?_
  rintro e wR ⟨rfl, kR⟩
  have hkR := hkP.trans (p.h.trans kR (fun _ _ f => f)) (fun _ _ f => f)
  refine ⟨_, rfl, kR, ?_⟩
  simp only [Act.put, List.setIfInBounds_toArray, List.set]
  clear c0 c1 c2 c3 c4 d0 d1 d2 hcr
  refine dyn_reads (rest := []) [16, 17, 18, 19, 20, 21, 22] _ (by kernel_rfl) ?_
  simp only [sel, List.filterMap_cons, List.filterMap_nil, List.getElem?_cons_succ, List.getElem?_cons_zero]
  repeat (show wpQuiet _ _ _ _ (_ :: _) _; go_big_quiet_step (fail))
  refine wpQuiet_nil ?_
  refine dyn_nil fun p => ?_
  have hkE := hkR.trans p.h (fun _ _ f => f)
  go_wp2_with fail
  go_ret
  exact ⟨rfl, hkE.below (Nat.le_refl _) (fun _ _ => id)⟩

theorem walk (w : World) (hT : Door.Tabs w) (xs : List Int) (hl : xs.length = Tryd.prog.cellsOf 23) (wf : ∀ z ∈ xs, (Lit.int .i64 z).wf = true) (mo bu : Int) (st : Bool) (w1 : (Lit.int .i64 mo).wf = true) (w2 : (Lit.int .i64 bu).wf = true) :
    Calls Tryd.prog 3 #[.agg (vals xs).toArray, .agg #[.int .i64 mo, .int .i64 bu, .bool st]] w fun e w' => e = .returned (.bool true) ∧ Below w.heap.size w w' := by
  have h5 : xs.length = 5 := hl.trans (by kernel_rfl)
  match xs, h5 with
  | [sc, od, th, fu, de], _ =>
    cases h1 : isCfg sc od th fu de <;> cases h2 : isAsk mo bu
    · exact body_ff w hT sc od th fu de mo bu st h1 h2
    · exact body_ft w hT sc od th fu de mo bu st h1 h2
    · exact body_tf w hT sc od th fu de mo bu st h1 h2
    · exact body_tt w hT sc od th fu de mo bu st h1 h2

section
open Go.ChangeShapes Go.WideShapes Go.ChangeAt Go.ChangeMaps Go.RowKit Go.Proofs.YtknpjhmgkogmaaaDoor.Own Go.Proofs.YtknpjhmgkogmaaaDoor.Open Go.Proofs.YtknpjhmgkogmaaaDoor.Door

theorem own : ownKnob Tryd.prog.godebug = none := by kernel_rfl
theorem laidOut : laidOutB Tryd.prog = true := by kernel_rfl

theorem door_met (os : Os) (args : Array Value) : laidMetH Tryd.prog Rows.confChecksRow.laid ((World.laidAll Tryd.prog os Rows.confChecksRow.laid).forCall (fun _ _ => 0) ⟨#[], args, []⟩).memory := by
  rw [MakeChecks.laidMetH_plain _ _ _ (by kernel_rfl)]
  exact laidMet_laidAll _ (by kernel_rfl) (by kernel_rfl)

set_option maxRecDepth 100000 in
theorem lifted (os : Os) (started : os.Started) (H : Type) (enc : TypeId × Value → H) :
    ReturnsInHanded {} Tryd.checked os 3 .any (fun w args => (Rows.confChecksSpec.pre enc Tryd.prog Tryd.f3 [] false w args ∧ laidMetH Tryd.prog Rows.confChecksRow.laid w) ∧ sizedMet enc Tryd.prog Tryd.f3 (OpenSpec.ofChange Rows.confChecksSpec) false w args) (Rows.confChecksSpec.post enc Tryd.prog Tryd.f3 false true false false) := by
  refine returnsInHanded_of_change_and (C := Tryd.checked) (X := fun w _ => laidMetH Tryd.prog Rows.confChecksRow.laid w) (fun _ _ _ hh h => h.of_heap hh) own started (by kernel_rfl) Tryd.func3
    (ChangeSpec.witness_shaped (enc := enc) (C := Tryd.checked) (os := os) (X := fun w _ => laidMetH Tryd.prog Rows.confChecksRow.laid w) false (World.laidAll Tryd.prog os Rows.confChecksRow.laid) #[.agg #[.int .i64 0, .int .i64 0, .int .i64 0, .int .i64 0, .int .i64 0], .agg #[.int .i64 0, .int .i64 0, .bool false]] 8 (World.laidAll_os _ _ _) (World.shaped_of_ZipB (by kernel_rfl) (by kernel_rfl)) (by kernel_rfl) (by kernel_rfl) (by kernel_rfl) (door_met os _)) ?_
  intro W base args ds gs before hval0 hW _ _ hL _
  have hval : ∀ (j : Nat) t v, Tryd.f3.params[j]? = some t → args[j]? = some v → Value.okWide Tryd.prog W .any base t v := hval0
  have hW' := hW
  obtain ⟨p, q, hA0, hV, rfl, hfz, hnd⟩ := hW
  have hA : DataW.TrodAll enc Tryd.prog W 0 (fun _ => true) true Tryd.f3.params.toList args.toList ds p := hA0
  rw [Tryd.params3] at hA hval
  have hA1 := hA
  obtain ⟨v0, vs0, d0, ds0, p0, q0, hargs, rfl, rfl, h0, r0⟩ := trodAll_cons hA
  obtain ⟨v1, vs1, d1, ds1, p1, q1, rfl, rfl, rfl, h1, r1⟩ := trodAll_cons r0
  obtain ⟨rfl, rfl, rfl⟩ := trodAll_nil r1
  obtain rfl : args = #[v0, v1] := by cases args; simp_all
  obtain ⟨rfl, rfl⟩ := trodVars_none hV
  obtain ⟨z0, rfl, l0, wf0⟩ := open_agg_i64 Tryd.underlying23 (by kernel_rfl) (hval 0 23 v0 rfl rfl) h0
  obtain ⟨ka1, kb1, kc1, rfl, wka1, wkb1⟩ := open_ask Tryd.underlying25 (by kernel_rfl) (by kernel_rfl) (by kernel_rfl) (by kernel_rfl) Tryd.underlying3 Tryd.underlying3 Tryd.underlying4 (hval 1 25 v1 rfl rfl) h1
  clear hA0 hval0
  simp only [List.append_nil] at hW' hA1
  refine (walk W (tabs_of hL) z0 l0 wf0 ka1 kb1 kc1 wka1 wkb1).mono fun e W' ⟨he, hb⟩ => ?_
  subst he
  exact ⟨_, rfl, ⟨_, _, _, [], _, [], hW', trodAll_mk1 (shut_bool Tryd.underlying4 _), below_args laidOut hb (by kernel_rfl) hA1 (fun x hx => by simpa using hW'.lt x hx), rfl, hb.frame _, fun h => by cases h⟩⟩

theorem said : Rows.ConfChecksSaid :=
  OpenClaim.holds_of_wide 3 Tryd.f3 rfl rfl rfl rfl rfl rfl rfl ⟨rfl, rfl, rfl, rfl, rfl⟩ rfl rfl rfl rfl rfl (by kernel_rfl) Tryd.func3 (by kernel_rfl)
    (of_decide_eq_true (by kernel_rfl)) (by unfold Func.isWrapper; first | (rw [if_pos (by decide +kernel)]; kernel_rfl) | (rw [if_neg (by decide +kernel)]; exact ⟨rfl, rfl⟩))
    (fun os started H enc _ => lifted os started H enc)

theorem proved : Rows.ConfChecksCardSaid :=
  Claim7.holds_tied_plain_at .later [] [.data, .data, .data, .data, .sentinel, .sentinel, .pinned] true Rows.confChecksCard.stood.harness true
    said (fun _ h => by cases h) (by kernel_rfl) (fun _ h => by cases h) confChecks_row_tie rfl ⟨rfl, rfl⟩ (by kernel_rfl) rfl
    (fun f fn hf hfn => by
      obtain rfl : f = 3 := Option.some.inj ((show Tryd.prog.funcNamed "warrener/warrenerlaw14.ConfChecks" = some 3 by kernel_rfl).symm.trans hf) |>.symm
      obtain rfl : fn = Tryd.f3 := (Option.some.inj (Tryd.func3.symm.trans hfn)).symm
      exact ⟨by kernel_rfl, fun j t ht => by
        have hm : t ∈ Tryd.f3.params := Array.mem_of_getElem? ht
        have hall : (Tryd.f3.params.all fun u => !Tryd.prog.wantsStandIn u) = true := by kernel_rfl
        have := Array.all_eq_true_iff_forall_mem.1 hall t hm
        exact (show Tryd.prog.wantsStandIn t = false by simpa using this)⟩)
    (by kernel_rfl)
end
end Go.Proofs.YtknpjhmgkogmaaaDoor.confChecks
