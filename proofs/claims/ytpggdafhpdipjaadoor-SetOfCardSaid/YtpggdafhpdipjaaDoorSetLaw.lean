/-
  Sets as numbers: how many bits a number of 64 bits has, as math/bits reckons it.
-/
set_option linter.unusedVariables false
namespace Go.Proofs.YtpggdafhpdipjaaDoor.Sets

def cnt (n x : Nat) : Nat := (List.range n).countP fun i => x.testBit i
theorem cnt_succ (n x : Nat) : cnt (n + 1) x = x % 2 + cnt n (x / 2) := by
  unfold cnt
  rw [List.range_succ_eq_map, List.countP_cons, List.countP_map, Nat.add_comm]
  congr 1
  · simp only [Nat.testBit_zero]
    rcases Nat.mod_two_eq_zero_or_one x with h | h <;> simp [h]
  · congr 1
    funext i
    simp [Nat.testBit_succ]
theorem cnt_add (n : Nat) : ∀ (m x : Nat), cnt (m + n) x = cnt m x + cnt n (x / 2 ^ m)
  | 0, x => by simp [cnt]
  | m + 1, x => by
    rw [show m + 1 + n = (m + n) + 1 by omega, cnt_succ, cnt_succ, cnt_add n m (x / 2), Nat.div_div_eq_div_mul, Nat.pow_succ, Nat.mul_comm (2 ^ m) 2]
    omega
theorem cnt_byte (n x : Nat) : cnt (8 + n) x = cnt 8 (x % 256) + cnt n (x / 256) := by
  rw [cnt_add]
  congr 1
  unfold cnt
  refine List.countP_congr fun i hi => ?_
  have hi8 : i < 8 := List.mem_range.1 hi
  rw [show x % 256 = x % 2 ^ 8 by rfl, Nat.testBit_mod_two_pow]
  simp [hi8]

def st (M0 M1 M2 x : Nat) : Nat :=
  (((((x / 2) &&& M0) + (x &&& M0)) / 4 &&& M1) + ((((x / 2) &&& M0) + (x &&& M0)) &&& M1)) / 16 + (((((x / 2) &&& M0) + (x &&& M0)) / 4 &&& M1) + ((((x / 2) &&& M0) + (x &&& M0)) &&& M1)) &&& M2

theorem and_split (u v p q : Nat) (hu : u < 256) (hp : p < 256) : (u + 256 * v) &&& (p + 256 * q) = (u &&& p) + 256 * (v &&& q) := by
  have h1 : ((u + 256 * v) &&& (p + 256 * q)) % 2 ^ 8 = (u &&& p) := by
    rw [Nat.and_mod_two_pow]
    congr 1 <;> omega
  have h2 : ((u + 256 * v) &&& (p + 256 * q)) / 2 ^ 8 = (v &&& q) := by
    rw [Nat.and_div_two_pow]
    congr 1 <;> omega
  omega

theorem d1 : ∀ a, a < 256 → ∀ c, c < 2 → ((a / 2 + 128 * c) &&& 85) = (a / 2 &&& 85) := by decide +kernel
theorem d2 : ∀ a, a < 256 → ∀ c, c < 4 → ((a / 4 + 64 * c) &&& 51) = (a / 4 &&& 51) := by decide +kernel
theorem and16 (x : Nat) : x &&& 15 = x % 16 := Nat.and_two_pow_sub_one_eq_mod x 4

theorem st_byte (M0 M1 M2 a b : Nat) (ha : a < 256) (hM : M1 % 16 ≤ 3) : st (85 + 256 * M0) (51 + 256 * M1) (15 + 256 * M2) (a + 256 * b) = st 85 51 15 a + 256 * st M0 M1 M2 b := by
  have e1 : (a + 256 * b) / 2 &&& (85 + 256 * M0) = (a / 2 &&& 85) + 256 * (b / 2 &&& M0) := by
    rw [show (a + 256 * b) / 2 = (a / 2 + 128 * (b % 2)) + 256 * (b / 2) by omega, and_split _ _ _ _ (by omega) (by omega), d1 a ha _ (by omega)]
  have e2 : (a + 256 * b) &&& (85 + 256 * M0) = (a &&& 85) + 256 * (b &&& M0) := and_split _ _ _ _ ha (by omega)
  have l1 : (a / 2 &&& 85) ≤ 85 := Nat.and_le_right
  have l2 : (a &&& 85) ≤ 85 := Nat.and_le_right
  unfold st
  rw [e1, e2]
  generalize (a / 2 &&& 85) = a1 at *
  generalize (a &&& 85) = a2 at *
  generalize (b / 2 &&& M0) = b1
  generalize (b &&& M0) = b2
  rw [show a1 + 256 * b1 + (a2 + 256 * b2) = (a1 + a2) + 256 * (b1 + b2) by omega]
  have hx : a1 + a2 < 256 := by omega
  generalize a1 + a2 = x at *
  generalize b1 + b2 = y
  have e3 : (x + 256 * y) / 4 &&& (51 + 256 * M1) = (x / 4 &&& 51) + 256 * (y / 4 &&& M1) := by
    rw [show (x + 256 * y) / 4 = (x / 4 + 64 * (y % 4)) + 256 * (y / 4) by omega, and_split _ _ _ _ (by omega) (by omega), d2 x hx _ (by omega)]
  have e4 : (x + 256 * y) &&& (51 + 256 * M1) = (x &&& 51) + 256 * (y &&& M1) := and_split _ _ _ _ hx (by omega)
  have l3 : (x / 4 &&& 51) ≤ 51 := Nat.and_le_right
  have l4 : (x &&& 51) ≤ 51 := Nat.and_le_right
  have nib : ∀ u : Nat, (u &&& M1) % 16 ≤ 3 := fun u => by
    have h := Nat.and_mod_two_pow (a := u) (b := M1) (n := 4)
    have h2 : (u % 2 ^ 4 &&& M1 % 2 ^ 4) ≤ M1 % 2 ^ 4 := Nat.and_le_right
    omega
  have n1 := nib (y / 4)
  have n2 := nib y
  rw [e3, e4]
  generalize (x / 4 &&& 51) = c1 at *
  generalize (x &&& 51) = c2 at *
  generalize (y / 4 &&& M1) = z1 at *
  generalize (y &&& M1) = z2 at *
  rw [show (c1 + 256 * z1 + (c2 + 256 * z2)) / 16 + (c1 + 256 * z1 + (c2 + 256 * z2)) = ((c1 + c2) / 16 + (c1 + c2) + 16 * ((z1 + z2) % 16)) + 256 * ((z1 + z2) / 16 + (z1 + z2)) by omega,
    and_split _ _ _ _ (by omega) (by omega), and16, and16]
  omega

theorem st8 : ∀ a, a < 256 → st 85 51 15 a = cnt 8 a ∧ cnt 8 a ≤ 8 := by decide +kernel

/-- What math/bits.OnesCount64 reckons. -/
def swar (s : Nat) : Nat :=
  let x := st 6148914691236517205 3689348814741910323 1085102592571150095 s
  let y := x + x / 256
  let z := y + y / 65536
  (z + z / 4294967296) % 128

theorem st_step (M0 M1 M2 N0 N1 N2 x : Nat) (h0 : N0 = 85 + 256 * M0) (h1 : N1 = 51 + 256 * M1) (h2 : N2 = 15 + 256 * M2) (hM : M1 % 16 ≤ 3) : st N0 N1 N2 x = cnt 8 (x % 256) + 256 * st M0 M1 M2 (x / 256) := by
  have h3 := st_byte M0 M1 M2 (x % 256) (x / 256) (by omega) hM
  rw [show x % 256 + 256 * (x / 256) = x by omega, (st8 (x % 256) (by omega)).1] at h3
  rw [h0, h1, h2, h3]
theorem div_at (n A B : Nat) (h : A < n) : (A + n * B) / n = B := by
  rw [Nat.add_mul_div_left _ _ (by omega), Nat.div_eq_of_lt h, Nat.zero_add]
theorem sum8 (c0 c1 c2 c3 c4 c5 c6 c7 : Nat) (b0 : c0 ≤ 8) (b1 : c1 ≤ 8) (b2 : c2 ≤ 8) (b3 : c3 ≤ 8) (b4 : c4 ≤ 8) (b5 : c5 ≤ 8) (b6 : c6 ≤ 8) (b7 : c7 ≤ 8) (x : Nat)
    (hx : x = c0 + 256 * (c1 + 256 * (c2 + 256 * (c3 + 256 * (c4 + 256 * (c5 + 256 * (c6 + 256 * c7))))))) :
    (x + x / 256 + (x + x / 256) / 65536 + (x + x / 256 + (x + x / 256) / 65536) / 4294967296) % 128 = c0 + (c1 + (c2 + (c3 + (c4 + (c5 + (c6 + c7)))))) := by
  have y0 : x / 256 = c1 + 256 * (c2 + 256 * (c3 + 256 * (c4 + 256 * (c5 + 256 * (c6 + 256 * c7))))) := by rw [hx]; exact div_at _ _ _ (by omega)
  rw [y0]
  have hy : x + (c1 + 256 * (c2 + 256 * (c3 + 256 * (c4 + 256 * (c5 + 256 * (c6 + 256 * c7)))))) = (c0 + c1 + 256 * (c1 + c2)) + 65536 * ((c2 + c3) + 256 * (c3 + c4) + 65536 * ((c4 + c5) + 256 * (c5 + c6) + 65536 * ((c6 + c7) + 256 * c7))) := by rw [hx]; omega
  rw [hy, div_at 65536 _ _ (by omega)]
  have hz : (c0 + c1 + 256 * (c1 + c2)) + 65536 * ((c2 + c3) + 256 * (c3 + c4) + 65536 * ((c4 + c5) + 256 * (c5 + c6) + 65536 * ((c6 + c7) + 256 * c7))) + ((c2 + c3) + 256 * (c3 + c4) + 65536 * ((c4 + c5) + 256 * (c5 + c6) + 65536 * ((c6 + c7) + 256 * c7))) =
      ((c0 + c1 + c2 + c3) + 256 * (c1 + c2 + c3 + c4) + 65536 * (c2 + c3 + c4 + c5) + 16777216 * (c3 + c4 + c5 + c6)) + 4294967296 * ((c4 + c5 + c6 + c7) + 128 * (2 * (c5 + c6 + c7) + 512 * (c6 + c7) + 131072 * c7)) := by omega
  rw [hz, div_at 4294967296 _ _ (by omega)]
  have hf : ((c0 + c1 + c2 + c3) + 256 * (c1 + c2 + c3 + c4) + 65536 * (c2 + c3 + c4 + c5) + 16777216 * (c3 + c4 + c5 + c6)) + 4294967296 * ((c4 + c5 + c6 + c7) + 128 * (2 * (c5 + c6 + c7) + 512 * (c6 + c7) + 131072 * c7)) + ((c4 + c5 + c6 + c7) + 128 * (2 * (c5 + c6 + c7) + 512 * (c6 + c7) + 131072 * c7)) =
      (c0 + (c1 + (c2 + (c3 + (c4 + (c5 + (c6 + c7))))))) + 128 * (2 * (c1 + c2 + c3 + c4) + 512 * (c2 + c3 + c4 + c5) + 131072 * (c3 + c4 + c5 + c6) + 33554432 * ((c4 + c5 + c6 + c7) + 128 * (2 * (c5 + c6 + c7) + 512 * (c6 + c7) + 131072 * c7)) + (2 * (c5 + c6 + c7) + 512 * (c6 + c7) + 131072 * c7)) := by omega
  rw [hf, Nat.add_mul_mod_self_left]
  exact Nat.mod_eq_of_lt (by omega)
theorem swar_is (s : Nat) (h : s < 18446744073709551616) : swar s = cnt 64 s := by
  have e8 := st_step 24019198012642645 14411518807585587 4238682002231055 6148914691236517205 3689348814741910323 1085102592571150095 (s) rfl rfl rfl (by decide)
  have e7 := st_step 93824992236885 56294995342131 16557351571215 24019198012642645 14411518807585587 4238682002231055 (s / 256) rfl rfl rfl (by decide)
  have e6 := st_step 366503875925 219902325555 64677154575 93824992236885 56294995342131 16557351571215 (s / 256 / 256) rfl rfl rfl (by decide)
  have e5 := st_step 1431655765 858993459 252645135 366503875925 219902325555 64677154575 (s / 256 / 256 / 256) rfl rfl rfl (by decide)
  have e4 := st_step 5592405 3355443 986895 1431655765 858993459 252645135 (s / 256 / 256 / 256 / 256) rfl rfl rfl (by decide)
  have e3 := st_step 21845 13107 3855 5592405 3355443 986895 (s / 256 / 256 / 256 / 256 / 256) rfl rfl rfl (by decide)
  have e2 := st_step 85 51 15 21845 13107 3855 (s / 256 / 256 / 256 / 256 / 256 / 256) rfl rfl rfl (by decide)
  have f8 : cnt 64 (s) = cnt 8 ((s) % 256) + cnt 56 (s / 256) := cnt_byte 56 (s)
  have f7 : cnt 56 (s / 256) = cnt 8 ((s / 256) % 256) + cnt 48 (s / 256 / 256) := cnt_byte 48 (s / 256)
  have f6 : cnt 48 (s / 256 / 256) = cnt 8 ((s / 256 / 256) % 256) + cnt 40 (s / 256 / 256 / 256) := cnt_byte 40 (s / 256 / 256)
  have f5 : cnt 40 (s / 256 / 256 / 256) = cnt 8 ((s / 256 / 256 / 256) % 256) + cnt 32 (s / 256 / 256 / 256 / 256) := cnt_byte 32 (s / 256 / 256 / 256)
  have f4 : cnt 32 (s / 256 / 256 / 256 / 256) = cnt 8 ((s / 256 / 256 / 256 / 256) % 256) + cnt 24 (s / 256 / 256 / 256 / 256 / 256) := cnt_byte 24 (s / 256 / 256 / 256 / 256)
  have f3 : cnt 24 (s / 256 / 256 / 256 / 256 / 256) = cnt 8 ((s / 256 / 256 / 256 / 256 / 256) % 256) + cnt 16 (s / 256 / 256 / 256 / 256 / 256 / 256) := cnt_byte 16 (s / 256 / 256 / 256 / 256 / 256)
  have f2 : cnt 16 (s / 256 / 256 / 256 / 256 / 256 / 256) = cnt 8 ((s / 256 / 256 / 256 / 256 / 256 / 256) % 256) + cnt 8 (s / 256 / 256 / 256 / 256 / 256 / 256 / 256) := cnt_byte 8 (s / 256 / 256 / 256 / 256 / 256 / 256)
  have h7 : s / 256 / 256 / 256 / 256 / 256 / 256 / 256 < 256 := by omega
  have e1 := (st8 _ h7)
  have b : ∀ x, cnt 8 (x % 256) ≤ 8 := fun x => (st8 _ (by omega)).2
  rw [e1.1] at e2
  rw [f8, f7, f6, f5, f4, f3, f2]
  unfold swar
  rw [e8, e7, e6, e5, e4, e3, e2]
  exact sum8 _ _ _ _ _ _ _ _ (b _) (b _) (b _) (b _) (b _) (b _) (b _) e1.2 _ rfl
end Go.Proofs.YtpggdafhpdipjaaDoor.Sets
