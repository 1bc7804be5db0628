/-
  Package lines' statements: alive; a text cut to so many octets.
-/
import Derived.Test.YtclemefgljlmfaaDoorWords2
import Derived.Test.YtclemefgljlmfaaDoorNum
set_option linter.unusedVariables false
namespace Go.Proofs.YtclemefgljlmfaaDoor.Line
open Go.RowKit Go.Sort Go.Proofs.YtclemefgljlmfaaDoor.Own Go.Proofs.YtclemefgljlmfaaDoor.Conv

set_option maxHeartbeats 4000000 in
theorem alive_is (w : World) (hT : Door.Tabs w) : Calls Tryd.prog 7 #[] w fun e w' => e = .returned (.bool true) ∧ Kept No w w' := by
  have n1 : numberL [45, 49, 50] = some (-12) := numberL_some.2 ⟨by decide +kernel, by omega, by omega⟩
  have n2 : numberL [55] = some 7 := numberL_some.2 ⟨by decide +kernel, by omega, by omega⟩
  have n3 : smallL [55] 7 = some 7 := by rw [smallL, n2]; rfl
  have n4 : wordsL [97, 32, 32, 98] = [[97], [98]] := by decide
  have n5 : Lib.itoa (-5) = [45, 53] := by decide +kernel
  have n6 : linesL [97, 10, 98] = [[97], [98]] := by decide
  have n7 : Lib.join [[97], [98]] [32] = [97, 32, 98] := by decide
  have N1 := Lib.hid n1
  have N3 := Lib.hid n3
  have N4 := Lib.hid n4
  have N5 := Lib.hid n5
  have N6 := Lib.hid n6
  have N7 := Lib.hid n7
  clear n1 n2 n3 n4 n5 n6 n7
  have HT := Lib.hid hT
  clear hT
  go_enter Tryd.func7, Tryd.ntmps7
  go_wp2_with fail
  refine (number_is [45, 49, 50] (by simp) w HT.out).mono ?_
  rw [N1.out]
  rintro e w1 ⟨rfl, k1⟩
  simp only [Option.getD_some, Option.isSome_some]
  have K1 := Lib.hid k1
  go_wp2_with fail
  refine (small_is [55] (by simp) 7 w1 (HT.out.kept K1.out)).mono ?_
  rw [N3.out]
  rintro e w2 ⟨rfl, k2⟩
  simp only [Option.getD_some, Option.isSome_some]
  have K2 := Lib.hid (K1.out.trans k2 (fun _ _ f => f))
  clear k1 k2
  go_wp2_with fail
  refine (words_is [97, 32, 32, 98] (by simp) w2).mono ?_
  rw [N4.out]
  rintro e w3 ⟨k3, v3, rfl, hs3⟩
  have K3 := Lib.hid (K2.out.trans k3 (fun _ _ f => f))
  obtain ⟨a3, c3, rfl⟩ : ∃ a c, v3 = .slice a 2 c := by obtain ⟨_, a, c, h, _⟩ := hs3.rd; exact ⟨a, c, h⟩
  clear k3 hs3
  go_wp2_with fail
  refine (decimal_is (-5) (by omega) (by omega) w3 (HT.out.kept K3.out)).mono ?_
  rw [N5.out]
  rintro e w4 ⟨rfl, k4⟩
  have K4 := Lib.hid (K3.out.trans k4 (fun _ _ f => f))
  clear k4
  go_wp2_with fail
  refine (split_is [97, 10, 98] (by simp) w4).mono ?_
  rw [N6.out]
  rintro e w5 ⟨k5, v5, rfl, hs5⟩
  have K5 := Lib.hid (K4.out.trans k5 (fun _ _ f => f))
  obtain ⟨a5, c5, rfl⟩ : ∃ a c, v5 = .slice a 2 c := by obtain ⟨_, a, c, h, _⟩ := hs5.rd; exact ⟨a, c, h⟩
  clear k5 hs5
  have r5 : Rd (w5.alloc (.cells #[.string ⟨#[97]⟩, .string ⟨#[98]⟩] 9)) 1 (.slice (some ⟨w5.heap.size, 0, none⟩) 2 2) 2 (sv [[97], [98]]) :=
    ⟨rfl, _, _, rfl, by omega, by unfold maxLen; omega, (fun h => by cases h), fun _ => ⟨_, _, rfl, by simp, fun j u hu => by have := cells_new w5 #[.string ⟨#[97]⟩, .string ⟨#[98]⟩] 9 j u hu; rwa [Addr.add_lit] at this⟩⟩
  have R5 := Lib.hid r5
  clear r5
  go_wp2_with fail
  refine (join_is _ _ 2 [[97], [98]] R5.out (by omega) (by rw [N7.out]; simp)).mono ?_
  rw [N7.out]
  rintro e w6 ⟨rfl, k6⟩
  have K6 := Lib.hid ((K5.out.alloc _).trans k6 (fun _ _ f => f))
  clear k6
  go_wp2_with fail
  go_ret
  exact ⟨rfl, K6.out⟩

set_option maxHeartbeats 2000000 in
theorem cut_to (s : ByteArray) (m : Nat) (hs : s.size ≤ maxLen) (hm : m ≤ 1000000) (w : World) :
    Calls Tryd.prog 8 #[.string s, .int .i64 m] w fun e w' => e = .returned (.string ⟨(s.data.toList.take m).toArray⟩) ∧ w' = w := by
  unfold maxLen at hs
  have hl : s.data.toList.length = s.size := by simp
  have e1 : s.extract 0 m = ⟨(s.data.toList.take m).toArray⟩ := by rw [Lib.extract_eq]; simp
  have e2 : s.size ≤ m → s = ⟨(s.data.toList.take m).toArray⟩ := fun h => mk_of (by rw [List.take_of_length_le (by omega)])
  have E1 := Lib.hid e1
  have E2 := Lib.hid e2
  clear e1 e2 hl
  go_enter Tryd.func8, Tryd.ntmps8
  by_cases h : m < s.size
  · go_wp2_with fail
    go_ret
    refine ⟨?_, rfl⟩
    rw [← E1.out]
    rfl
  · go_wp2_with fail
    go_ret
    refine ⟨?_, rfl⟩
    rw [← E2.out (by omega)]
    rfl
end Go.Proofs.YtclemefgljlmfaaDoor.Line
