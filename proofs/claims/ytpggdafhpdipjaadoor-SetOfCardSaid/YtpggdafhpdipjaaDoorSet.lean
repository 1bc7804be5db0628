/-
  Package set: the small functions.
-/
import Derived.Test.YtpggdafhpdipjaaDoorRows
import Derived.Test.YtpggdafhpdipjaaDoorOwn
import Derived.Test.YtpggdafhpdipjaaDoorSetLaw
import Derived.WalkKit
import Derived.Laws.Bits64b
import Derived.Laws.BitsAllLaws
import Derived.Laws.Bits128
import Derived.Lib.TrailingZeros
import Derived.Test.YtpggdafhpdipjaaDoorDoor
import Derived.Laws.ShiftsVar
import Derived.Laws.ShiftsVarLaws
set_option linter.unusedVariables false
namespace Go.Proofs.YtpggdafhpdipjaaDoor.Sets
open Go.RowKit Go.Proofs.YtpggdafhpdipjaaDoor.Own

def bitN (i : Int) : Nat := if 0 ≤ i ∧ i < 64 then 2 ^ i.toNat else 0

theorem bitN_lt (i : Int) : bitN i < 18446744073709551616 := by
  unfold bitN
  split
  · rename_i h
    calc 2 ^ i.toNat < 2 ^ 64 := Nat.pow_lt_pow_right (by omega) (by omega)
      _ = 18446744073709551616 := rfl
  · omega

set_option maxHeartbeats 1000000 in
theorem bit_is (i : Int) (w : World) :
    Calls Tryd.prog 16 #[.int .i64 i] w fun e w' => e = .returned (.int .u64 (bitN i)) ∧ w' = w := by
  go_enter Tryd.func16, Tryd.ntmps16
  by_cases h0 : i < 0
  · go_wp2_with fail
    go_ret
    simp [bitN, show ¬ (0 ≤ i ∧ i < 64) by omega]
  · by_cases h1 : 64 ≤ i
    · go_wp2_with fail
      go_ret
      simp [bitN, show ¬ (0 ≤ i ∧ i < 64) by omega]
    · have hw : IntKind.u64.wrap (2 ^ i.toNat) = ((bitN i : Nat) : Int) := by
        have h2 : (2 : Int) ^ i.toNat = ((2 ^ i.toNat : Nat) : Int) := by simp
        have h3 := bitN_lt i
        have h4 : bitN i = 2 ^ i.toNat := by simp [bitN, show (0 ≤ i ∧ i < 64) by omega]
        rw [h2, IntKind.wrap_u64, h4]
        rw [h4] at h3
        omega
      go_wp2_with fail
      go_ret
      exact ⟨rfl, rfl⟩

def hasB (s : Nat) (i : Int) : Bool := s &&& bitN i != 0
def with_ (s : Nat) (i : Int) : Nat := s ||| bitN i
def without_ (s : Nat) (i : Int) : Nat := s &&& (18446744073709551615 - bitN i)

theorem has_is (s : Nat) (hs : s < 18446744073709551616) (i : Int) (w : World) :
    Calls Tryd.prog 8 #[.int .u64 s, .int .i64 i] w fun e w' => e = .returned (.bool (hasB s i)) ∧ w' = w := by
  go_enter Tryd.func8, Tryd.ntmps8
  go_wp2_with fail
  refine (bit_is i _).mono ?_
  rintro e w' ⟨rfl, rfl⟩
  have h1 := bits_and_u64_nat s (bitN i) hs (bitN_lt i)
  go_wp2_with fail
  go_ret
  have e : ((((s &&& bitN i : Nat) : Int)) != 0) = hasB s i := by
    unfold hasB
    rw [Bool.eq_iff_iff]
    simp only [bne_iff_ne]
    omega
  rw [← e]
  exact ⟨rfl, rfl⟩
theorem with_is (s : Nat) (hs : s < 18446744073709551616) (i : Int) (w : World) :
    Calls Tryd.prog 12 #[.int .u64 s, .int .i64 i] w fun e w' => e = .returned (.int .u64 (with_ s i : Nat)) ∧ w' = w := by
  go_enter Tryd.func12, Tryd.ntmps12
  go_wp2_with fail
  refine (bit_is i _).mono ?_
  rintro e w' ⟨rfl, rfl⟩
  have h1 := bits_or_u64_nat s (bitN i) hs (bitN_lt i)
  go_wp2_with fail
  go_ret
  exact ⟨rfl, rfl⟩
theorem without_is (s : Nat) (hs : s < 18446744073709551616) (i : Int) (w : World) :
    Calls Tryd.prog 13 #[.int .u64 s, .int .i64 i] w fun e w' => e = .returned (.int .u64 (without_ s i : Nat)) ∧ w' = w := by
  go_enter Tryd.func13, Tryd.ntmps13
  go_wp2_with fail
  refine (bit_is i _).mono ?_
  rintro e w' ⟨rfl, rfl⟩
  have h1 := u64_andNot_nat s (bitN i) hs (bitN_lt i)
  go_wp2_with fail
  go_ret
  exact ⟨rfl, rfl⟩

theorem in_is (i : Int) (w : World) :
    Calls Tryd.prog 14 #[.int .i64 i] w fun e w' => e = .returned (.bool (decide (0 ≤ i ∧ i < 64))) ∧ w' = w := by
  go_enter Tryd.func14, Tryd.ntmps14
  by_cases h0 : 0 ≤ i
  · go_wp2_with fail
    all_goals
      go_ret
      simp
      omega
  · go_wp2_with fail
    all_goals
      go_ret
      simp
      omega

theorem and_lit (x m : Nat) (hx : x < 18446744073709551616) (hm : m < 18446744073709551616) : bits .and .u64 (x : Int) (m : Int) = ((x &&& m : Nat) : Int) := bits_and_u64_nat x m hx hm
theorem ones_is (s : Nat) (hs : s < 18446744073709551616) (w : World) :
    Calls Tryd.prog 19 #[.int .u64 s] w fun e w' => e = .returned (.int .i64 (cnt 64 s : Nat)) ∧ w' = w := by
  obtain ⟨x1, h1⟩ : ∃ x1, x1 = (s / 2 &&& 6148914691236517205) + (s &&& 6148914691236517205) := ⟨_, rfl⟩
  obtain ⟨x2, h2⟩ : ∃ x2, x2 = (x1 / 4 &&& 3689348814741910323) + (x1 &&& 3689348814741910323) := ⟨_, rfl⟩
  obtain ⟨x3, h3⟩ : ∃ x3, x3 = (x2 / 16 + x2) &&& 1085102592571150095 := ⟨_, rfl⟩
  obtain ⟨x4, h4⟩ : ∃ x4, x4 = x3 + x3 / 256 := ⟨_, rfl⟩
  obtain ⟨x5, h5⟩ : ∃ x5, x5 = x4 + x4 / 65536 := ⟨_, rfl⟩
  obtain ⟨x6, h6⟩ : ∃ x6, x6 = x5 + x5 / 4294967296 := ⟨_, rfl⟩
  have l1 : (s / 2 &&& 6148914691236517205) ≤ 6148914691236517205 := Nat.and_le_right
  have l2 : (s &&& 6148914691236517205) ≤ 6148914691236517205 := Nat.and_le_right
  have l3 : (x1 / 4 &&& 3689348814741910323) ≤ 3689348814741910323 := Nat.and_le_right
  have l4 : (x1 &&& 3689348814741910323) ≤ 3689348814741910323 := Nat.and_le_right
  have l5 : ((x2 / 16 + x2) &&& 1085102592571150095) ≤ 1085102592571150095 := Nat.and_le_right
  have E1 : IntKind.u64.wrap (bits .and .u64 ((s : Int) / 2) 6148914691236517205 + bits .and .u64 (s : Int) 6148914691236517205) = (x1 : Int) := by
    have a := and_lit (s / 2) 6148914691236517205 (by omega) (by omega)
    have b := and_lit s 6148914691236517205 (by omega) (by omega)
    have c : bits .and .u64 ((s : Int) / 2) 6148914691236517205 = ((s / 2 &&& 6148914691236517205 : Nat) : Int) := a
    have d : bits .and .u64 (s : Int) 6148914691236517205 = ((s &&& 6148914691236517205 : Nat) : Int) := b
    rw [c, d, IntKind.wrap_u64]; omega
  have E2 : IntKind.u64.wrap (bits .and .u64 ((x1 : Int) / 4) 3689348814741910323 + bits .and .u64 (x1 : Int) 3689348814741910323) = (x2 : Int) := by
    have c : bits .and .u64 ((x1 : Int) / 4) 3689348814741910323 = ((x1 / 4 &&& 3689348814741910323 : Nat) : Int) := and_lit (x1 / 4) 3689348814741910323 (by omega) (by omega)
    have d : bits .and .u64 (x1 : Int) 3689348814741910323 = ((x1 &&& 3689348814741910323 : Nat) : Int) := and_lit x1 3689348814741910323 (by omega) (by omega)
    rw [c, d, IntKind.wrap_u64]; omega
  have E3 : bits .and .u64 (IntKind.u64.wrap ((x2 : Int) / 16 + (x2 : Int))) 1085102592571150095 = (x3 : Int) := by
    have e : IntKind.u64.wrap ((x2 : Int) / 16 + (x2 : Int)) = ((x2 / 16 + x2 : Nat) : Int) := by rw [IntKind.wrap_u64]; omega
    have c : bits .and .u64 (((x2 / 16 + x2 : Nat) : Int)) 1085102592571150095 = (((x2 / 16 + x2) &&& 1085102592571150095 : Nat) : Int) := and_lit (x2 / 16 + x2) 1085102592571150095 (by omega) (by omega)
    rw [e, c, h3]
  have E4 : IntKind.u64.wrap ((x3 : Int) + (x3 : Int) / 256) = (x4 : Int) := by rw [IntKind.wrap_u64]; omega
  have E5 : IntKind.u64.wrap ((x4 : Int) + (x4 : Int) / 65536) = (x5 : Int) := by rw [IntKind.wrap_u64]; omega
  have E6 : IntKind.u64.wrap ((x5 : Int) + (x5 : Int) / 4294967296) = (x6 : Int) := by rw [IntKind.wrap_u64]; omega
  have E7 : IntKind.i64.wrap (x6 : Int) = (x6 : Int) := by rw [IntKind.wrap_i64]; omega
  have hsw := swar_is s hs
  have e3 : x3 = st 6148914691236517205 3689348814741910323 1085102592571150095 s := by rw [h3, h2, h1]; rfl
  have hF : x6 % 128 = cnt 64 s := by rw [← hsw]; unfold swar; rw [h6, h5, h4, e3]
  clear h1 h2 h3 h4 h5 h6 l1 l2 l3 l4 l5 e3 hsw
  go_enter Tryd.func19, Tryd.ntmps19
  go_wp2_with fail
  go_ret
  rw [i64_and127, ← hF]
  simp

theorem wrap_u32' (n : Int) : IntKind.u32.wrap n = n % 4294967296 := by simp [IntKind.wrap, IntKind.signed, IntKind.bits]
theorem tz_key (x a : Nat) (hx : x < 18446744073709551616) (hx0 : x ≠ 0) (hlow : x &&& (18446744073709551616 - x) = a) :
    IntKind.u64.wrap (bits BinOp.and IntKind.u64 (x : Int) (IntKind.u64.wrap (-(x : Int))) * 285870213051353865) / 288230376151711744 = ((a * 285870213051353865 % 18446744073709551616 / 288230376151711744 : Nat) : Int) := by
  have e1 : IntKind.u64.wrap (-(x : Int)) = ((18446744073709551616 - x : Nat) : Int) := by rw [IntKind.wrap_u64]; omega
  rw [e1, bits_and_u64_nat x _ hx (by omega), hlow, IntKind.wrap_u64]
  omega
theorem tz_core (x k idx : Nat) (w : World) (hx0 : ((x : Int) == 0) = false)
    (key : IntKind.u64.wrap (bits BinOp.and IntKind.u64 (x : Int) (IntKind.u64.wrap (-(x : Int))) * 285870213051353865) / 288230376151711744 = (idx : Int))
    (hi : idx < 64) (hk : k < 64) (hcell : w.cell? ⟨0, idx, none⟩ = some (.int .u8 k)) :
    Calls Tryd.prog 22 #[.int .u64 x] w fun e w' => e = .returned (.int .i64 k) ∧ w' = w := by
  go_enter Tryd.func22, Tryd.ntmps22
  go_wp2_with (simp only [key])
  go_ret
  exact ⟨rfl, rfl⟩
theorem tz_is (x : Nat) (hx : x < 18446744073709551616) (hx0 : x ≠ 0) (w : World) (hT : Door.Tabs w) :
    Calls Tryd.prog 22 #[.int .u64 x] w fun e w' => e = .returned (.int .i64 (Lib.ctz 64 x)) ∧ w' = w := by
  obtain ⟨hlow, hk⟩ := Lib.lowest_bit 64 x hx0 hx
  obtain ⟨hi, htab⟩ := Lib.deBruijn64_at _ hk
  refine tz_core x (Lib.ctz 64 x) _ w ?_ (tz_key x _ hx hx0 hlow) hi hk ?_
  · rw [beq_eq_false_iff_ne]; omega
  · rw [hT _ hi, htab]
end Go.Proofs.YtpggdafhpdipjaaDoor.Sets
