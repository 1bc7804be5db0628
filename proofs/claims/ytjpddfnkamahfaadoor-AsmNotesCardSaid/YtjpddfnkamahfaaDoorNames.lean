/-
  The names and shapes as the code and the reference tell them; an operand of an instruction.
-/
import Derived.Test.YtjpddfnkamahfaaDoorOpOf
import Derived.Test.YtjpddfnkamahfaaDoorRefWords
import Derived.BigQuiet
set_option linter.unusedVariables false
namespace Go.Proofs.YtjpddfnkamahfaaDoor.Line
open Go.RowKit Go.Sort Go.Proofs.YtjpddfnkamahfaaDoor.Own Go.Proofs.YtjpddfnkamahfaaDoor.Conv

theorem field0 (x y : ByteArray) (w : World) : (Instr.field 65 (.agg #[.string x, .string y]) 0).run Tryd.prog w = .ok (.string x) w := by kernel_rfl
theorem field1 (x y : ByteArray) (w : World) : (Instr.field 65 (.agg #[.string x, .string y]) 1).run Tryd.prog w = .ok (.string y) w := by kernel_rfl

set_option maxRecDepth 100000 in
set_option maxHeartbeats 4000000 in
theorem opshape_is (z : Int) (w : World) : Calls Tryd.prog 18 #[.int .i64 z] w fun e w' => e = .returned (.string ⟨(shapeZ z).toArray⟩) ∧ Kept No w w' := by
  go_enter Tryd.func18, Tryd.ntmps18
  go_wp2_with fail
  refine (of_is z w).mono ?_
  rintro e w1 ⟨rfl, k1⟩
  go_wp2_with fail
  rw [field1]
  go_wp2_with fail
  go_ret
  exact ⟨rfl, k1⟩

theorem allT_len : allT.length ≤ 100000 := by decide +kernel
theorem words_len : (wordsL allT).length = 50 := by rw [words_all]; rfl
theorem nameZ_out {z : Int} (h : ¬ (1 ≤ z ∧ z ≤ 25)) : nameZ z = [] := by
  unfold nameZ
  split
  · have : z = 0 := by omega
    subst this; rfl
  · rfl
theorem shapeZ_out {z : Int} (h : ¬ (1 ≤ z ∧ z ≤ 25)) : shapeZ z = [] := by
  unfold shapeZ
  split
  · have : z = 0 := by omega
    subst this; rfl
  · rfl

set_option maxRecDepth 100000 in
set_option maxHeartbeats 4000000 in
theorem refname_is (z : Int) (w : World) : Calls Tryd.prog 45 #[.int .i64 z] w fun e w' => e = .returned (.string ⟨(nameZ z).toArray⟩) ∧ Kept No w w' := by
  obtain ⟨sn, hsn⟩ : ∃ s : ByteArray, (⟨(nameZ z).toArray⟩ : ByteArray) = s := ⟨_, rfl⟩
  rw [hsn]
  have HSN := Lib.hid hsn
  clear hsn
  by_cases hin : 1 ≤ z ∧ z ≤ 25
  · obtain ⟨k, rfl⟩ : ∃ k : Nat, z = k := ⟨z.toNat, by omega⟩
    have hk1 : 1 ≤ k := by omega
    have hk26 : k < 26 := by omega
    have i0 : (1 : Int) ≤ k := by omega
    have i1 : (k : Int) ≤ 25 := by omega
    obtain ⟨c1, c2⟩ := wcell k hk1 hk26
    rw [← nameZ_in k hk26, HSN.out] at c1
    have HC := Lib.hid c1
    clear hin c1 c2
    go_enter Tryd.func45, Tryd.ntmps45
    go_wp2_with fail
    refine (refwords_is allT allT_len w).mono ?_
    rintro e w1 ⟨k1, v1, rfl, s1⟩
    obtain ⟨_, ao, c, rfl, hc, hm, _, hR⟩ := s1.rd
    rw [words_len] at *
    obtain ⟨g, o, rfl, hg, hcell⟩ := hR (by omega)
    have d := hcell _ _ HC.out
    unfold maxLen at hm
    have e1 : (2 * (k : Int) - 2) = ((2 * k - 2 : Nat) : Int) := by omega
    obtain ⟨j, hj⟩ : ∃ j, 2 * k - 2 = j := ⟨_, rfl⟩
    have hj50 : j < 50 := by omega
    rw [hj] at d e1
    have K1 := Lib.hid k1
    clear hcell hR s1 k1 HC hj
    go_wp2_with fail
    go_ret
    exact ⟨rfl, K1.out⟩
  · obtain rfl : sn = ⟨#[]⟩ := by rw [← HSN.out, nameZ_out hin]
    by_cases hz : z < 1
    case' neg =>
      have hz0 : (1 : Int) ≤ z := by omega
      have h26 : (25 : Int) < z := by omega
    all_goals
      clear hin
      go_enter Tryd.func45, Tryd.ntmps45
      go_wp2_with fail
      go_ret
      exact ⟨rfl, Kept.refl _ _⟩
set_option maxRecDepth 100000 in
set_option maxHeartbeats 4000000 in
theorem refshape_is (z : Int) (w : World) : Calls Tryd.prog 23 #[.int .i64 z] w fun e w' => e = .returned (.string ⟨(shapeZ z).toArray⟩) ∧ Kept No w w' := by
  obtain ⟨sn, hsn⟩ : ∃ s : ByteArray, (⟨(shapeZ z).toArray⟩ : ByteArray) = s := ⟨_, rfl⟩
  rw [hsn]
  have HSN := Lib.hid hsn
  clear hsn
  by_cases hin : 1 ≤ z ∧ z ≤ 25
  · obtain ⟨k, rfl⟩ : ∃ k : Nat, z = k := ⟨z.toNat, by omega⟩
    have hk1 : 1 ≤ k := by omega
    have hk26 : k < 26 := by omega
    have i0 : (1 : Int) ≤ k := by omega
    have i1 : (k : Int) ≤ 25 := by omega
    obtain ⟨c1, c2⟩ := wcell k hk1 hk26
    rw [← shapeZ_in k hk26, HSN.out] at c2
    have HC := Lib.hid c2
    clear hin c1 c2
    go_enter Tryd.func23, Tryd.ntmps23
    go_wp2_with fail
    refine (refwords_is allT allT_len w).mono ?_
    rintro e w1 ⟨k1, v1, rfl, s1⟩
    obtain ⟨_, ao, c, rfl, hc, hm, _, hR⟩ := s1.rd
    rw [words_len] at *
    obtain ⟨g, o, rfl, hg, hcell⟩ := hR (by omega)
    have d := hcell _ _ HC.out
    unfold maxLen at hm
    have e1 : (2 * (k : Int) - 1) = ((2 * k - 1 : Nat) : Int) := by omega
    obtain ⟨j, hj⟩ : ∃ j, 2 * k - 1 = j := ⟨_, rfl⟩
    have hj50 : j < 50 := by omega
    rw [hj] at d e1
    have K1 := Lib.hid k1
    clear hcell hR s1 k1 HC hj
    go_wp2_with fail
    go_ret
    exact ⟨rfl, K1.out⟩
  · obtain rfl : sn = ⟨#[]⟩ := by rw [← HSN.out, shapeZ_out hin]
    by_cases hz : z < 1
    case' neg =>
      have hz0 : (1 : Int) ≤ z := by omega
      have h26 : (25 : Int) < z := by omega
    all_goals
      clear hin
      go_enter Tryd.func23, Tryd.ntmps23
      go_wp2_with fail
      go_ret
      exact ⟨rfl, Kept.refl _ _⟩

/-- An operand. -/
def fldZ (a b c n i : Int) : Int := if i = 0 then a else if i = 1 then b else if i = 2 then c else n
set_option maxHeartbeats 2000000 in
theorem reffield_is (z a b c n i : Int) (w : World) : Calls Tryd.prog 43 #[.agg #[.int .i64 z, .int .i64 a, .int .i64 b, .int .i64 c, .int .i64 n], .int .i64 i] w fun e w' => e = .returned (.int .i64 (fldZ a b c n i)) ∧ Kept No w w' := by
  unfold fldZ
  go_enter Tryd.func43, Tryd.ntmps43
  by_cases h0 : i = 0
  · subst h0
    go_wp2_with fail
    go_ret
    exact ⟨rfl, (Kept.refl _ _).alloc _⟩
  · have e0 : (i == 0) = false := by simp [h0]
    rw [if_neg h0]
    by_cases h1 : i = 1
    · subst h1
      clear h0 e0
      go_wp2_with fail
      go_ret
      exact ⟨rfl, (Kept.refl _ _).alloc _⟩
    · have e1 : (i == 1) = false := by simp [h1]
      rw [if_neg h1]
      by_cases h2 : i = 2
      · subst h2
        clear h0 e0 h1 e1
        go_wp2_with fail
        go_ret
        exact ⟨rfl, (Kept.refl _ _).alloc _⟩
      · have e2 : (i == 2) = false := by simp [h2]
        rw [if_neg h2]
        clear h0 h1 h2
        go_wp2_with fail
        go_ret
        exact ⟨rfl, (Kept.refl _ _).alloc _⟩
end Go.Proofs.YtjpddfnkamahfaaDoor.Line
