/-
  Package keys' statements: alive.
-/
import Derived.Test.YtnggbfdnlmkklaaDoorKeyWords
set_option linter.unusedVariables false
namespace Go.Proofs.YtnggbfdnlmkklaaDoor.Line
open Go.RowKit Go.Sort Go.Proofs.YtnggbfdnlmkklaaDoor.Own Go.Proofs.YtnggbfdnlmkklaaDoor.Conv Go.Proofs.YtnggbfdnlmkklaaDoor.Calm

set_option maxRecDepth 100000 in
set_option maxHeartbeats 4000000 in
theorem alive_is (w : World) (hT : Door.Tabs w) : Calls Tryd.prog 6 #[] w fun e w' => e = .returned (.bool true) ∧ Kept No w w' := by
  have n1 : keyT 1 0 3 = [117, 97, 102, 32, 48, 32, 51] := by decide +kernel
  have n2 : isKey 1 0 3 = true := by decide
  have n3 : parseL [117, 97, 102, 32, 48, 32, 51] = some (1, 0, 3) := by rw [← n1]; exact parse_text n2
  have hP : ∀ w : World, Door.Tabs w → Calls Tryd.prog 10 #[.string ⟨#[117, 97, 102, 32, 48, 32, 51]⟩] w fun e w' => e = .returned (.tuple #[.agg #[.int .i64 1, .int .i64 0, .int .i64 3], .bool true]) ∧ Kept No w w' := fun w hT => by
    have := parse_is [117, 97, 102, 32, 48, 32, 51] (by simp) w hT
    rw [n3] at this
    exact this
  have hX : ∀ w : World, Door.Tabs w → Calls Tryd.prog 11 #[.agg #[.int .i64 1, .int .i64 0, .int .i64 3]] w fun e w' => e = .returned (.string ⟨#[117, 97, 102, 32, 48, 32, 51]⟩) ∧ Kept No w w' := fun w hT => by
    have := text_is 1 0 3 w hT
    rw [n1] at this
    exact this
  have hI : ∀ w : World, Calls Tryd.prog 9 #[.agg #[.int .i64 1, .int .i64 0, .int .i64 3]] w fun e w' => e = .returned (.bool true) ∧ Kept No w w' := fun w => by
    have := is_is 1 0 3 w
    rw [n2] at this
    exact this
  have hH : ∀ (b : Nat) (w : World), Box w b #[.int .i64 1, .int .i64 0, .int .i64 3] 23 → Calls Tryd.prog 20 #[.slice (some ⟨b, 0, none⟩) 1 1, .agg #[.int .i64 1, .int .i64 0, .int .i64 3]] w fun e w' => e = .returned (.bool true) ∧ Kept No w w' := fun b w hb => by
    refine (has_is w _ 1 [(1, 0, 3)] ⟨rfl, some ⟨b, 0, none⟩, 1, rfl, by omega, by simp [maxLen], (fun h => by cases h), fun _ => ⟨b, 0, rfl, hb.lt, fun j u hu => ?_⟩⟩ 1 0 3).mono ?_
    · rw [Nat.zero_add, hb.cell]
      have hj : j < 3 := by
        have := (List.getElem?_eq_some_iff.1 hu).1
        exact this
      have : j = 0 ∨ j = 1 ∨ j = 2 := by omega
      rcases this with rfl | rfl | rfl <;> exact hu
    · rintro e w' ⟨rfl, h⟩
      exact ⟨by simp, h⟩
  have HP := Lib.hid hP
  have HX := Lib.hid hX
  have HI := Lib.hid hI
  have HH := Lib.hid hH
  have HA := Lib.hid (add_nil 1 0 3)
  have HT := Lib.hid hT
  clear n1 n2 n3 hI hX hH hP hT
  have hb0 := Box.new w #[.int .i64 1, .int .i64 0, .int .i64 3] 23
  have hk0 : Kept No w (w.alloc (.cells #[.int .i64 1, .int .i64 0, .int .i64 3] 23)) := (Kept.refl _ _).alloc _
  go_enter Tryd.func6, Tryd.ntmps6
  go_upto_region 2 with fail
  generalize w.alloc (.cells #[.int .i64 1, .int .i64 0, .int .i64 3] 23) = w0 at *
  go_wp2_with fail
  refine (HP.out _ (HT.out.kept hk0)).mono ?_
  rintro e w1 ⟨rfl, k1⟩
  have hb1 := hb0.kept k1 id
  have hk1 := hk0.trans k1 (fun _ _ f => f)
  clear hb0 hk0 k1
  go_upto_region 3 with fail
  have hb2 := hb1.alloc (.cells #[.int .i64 1, .int .i64 0, .int .i64 3] 23)
  have hx2 := Box.new w1 #[.int .i64 1, .int .i64 0, .int .i64 3] 23
  have hk2 := hk1.alloc (.cells #[.int .i64 1, .int .i64 0, .int .i64 3] 23)
  generalize w1.alloc (.cells #[.int .i64 1, .int .i64 0, .int .i64 3] 23) = w2 at *
  generalize w1.heap.size = bx at *
  clear hb1 hk1
  have a20 : w2.cell? ⟨w.heap.size, 0, none⟩ = some (.int .i64 1) := hb2.cell 0
  have a21 : w2.cell? ⟨w.heap.size, 1, none⟩ = some (.int .i64 0) := hb2.cell 1
  have a22 : w2.cell? ⟨w.heap.size, 2, none⟩ = some (.int .i64 3) := hb2.cell 2
  have x20 : w2.cell? ⟨bx, 0, none⟩ = some (.int .i64 1) := hx2.cell 0
  have x21 : w2.cell? ⟨bx, 1, none⟩ = some (.int .i64 0) := hx2.cell 1
  have x22 : w2.cell? ⟨bx, 2, none⟩ = some (.int .i64 3) := hx2.cell 2
  go_wp2_with fail
  refine (HX.out _ (HT.out.kept hk2)).mono ?_
  rintro e w3 ⟨rfl, k3⟩
  have hb3 := hb2.kept k3 id
  have hx3 := hx2.kept k3 id
  have hk3 := hk2.trans k3 (fun _ _ f => f)
  clear a20 a21 a22 x20 x21 x22 hb2 hx2 hk2 k3
  have a30 : w3.cell? ⟨w.heap.size, 0, none⟩ = some (.int .i64 1) := hb3.cell 0
  have a31 : w3.cell? ⟨w.heap.size, 1, none⟩ = some (.int .i64 0) := hb3.cell 1
  have a32 : w3.cell? ⟨w.heap.size, 2, none⟩ = some (.int .i64 3) := hb3.cell 2
  have x30 : w3.cell? ⟨bx, 0, none⟩ = some (.int .i64 1) := hx3.cell 0
  have x31 : w3.cell? ⟨bx, 1, none⟩ = some (.int .i64 0) := hx3.cell 1
  have x32 : w3.cell? ⟨bx, 2, none⟩ = some (.int .i64 3) := hx3.cell 2
  go_wp2_with fail
  refine (HI.out _).mono ?_
  rintro e w4 ⟨rfl, k4⟩
  have hb4 := hb3.kept k4 id
  have hx4 := hx3.kept k4 id
  have hk4 := hk3.trans k4 (fun _ _ f => f)
  clear a30 a31 a32 x30 x31 x32 hb3 hx3 hk3 k4
  have a0 : w4.cell? ⟨w.heap.size, 0, none⟩ = some (.int .i64 1) := hb4.cell 0
  have a1 : w4.cell? ⟨w.heap.size, 1, none⟩ = some (.int .i64 0) := hb4.cell 1
  have a2 : w4.cell? ⟨w.heap.size, 2, none⟩ = some (.int .i64 3) := hb4.cell 2
  have hb4' := hb4.alloc (.cells #[.int .i64 1, .int .i64 0, .int .i64 3] 23)
  have b0 : (w4.alloc (.cells #[.int .i64 1, .int .i64 0, .int .i64 3] 23)).cell? ⟨w.heap.size, 0, none⟩ = some (.int .i64 1) := hb4'.cell 0
  have b1 : (w4.alloc (.cells #[.int .i64 1, .int .i64 0, .int .i64 3] 23)).cell? ⟨w.heap.size, 1, none⟩ = some (.int .i64 0) := hb4'.cell 1
  have b2 : (w4.alloc (.cells #[.int .i64 1, .int .i64 0, .int .i64 3] 23)).cell? ⟨w.heap.size, 2, none⟩ = some (.int .i64 3) := hb4'.cell 2
  have hs4 := Box.new w4 #[.int .i64 1, .int .i64 0, .int .i64 3] 23
  go_wp2_with fail
  refine (HH.out _ _ hs4).mono ?_
  rintro e w5 ⟨rfl, k5⟩
  have hb5 := (hb4.alloc (.cells #[.int .i64 1, .int .i64 0, .int .i64 3] 23)).kept k5 id
  have hk5 := (hk4.alloc (.cells #[.int .i64 1, .int .i64 0, .int .i64 3] 23)).trans k5 (fun _ _ f => f)
  clear a0 a1 a2 b0 b1 b2 hs4 hb4' hb4 hx4 hk4 k5
  have a0 : w5.cell? ⟨w.heap.size, 0, none⟩ = some (.int .i64 1) := hb5.cell 0
  have a1 : w5.cell? ⟨w.heap.size, 1, none⟩ = some (.int .i64 0) := hb5.cell 1
  have a2 : w5.cell? ⟨w.heap.size, 2, none⟩ = some (.int .i64 3) := hb5.cell 2
  go_wp2_with fail
  refine (HA.out _).mono ?_
  rintro e w6 ⟨⟨ax, cx, rfl⟩, k6⟩
  have hk6 := hk5.trans k6 (fun _ _ f => f)
  clear a0 a1 a2 hb5 hk5 k6
  go_wp2_with fail
  go_ret
  exact ⟨rfl, hk6⟩
end Go.Proofs.YtnggbfdnlmkklaaDoor.Line
