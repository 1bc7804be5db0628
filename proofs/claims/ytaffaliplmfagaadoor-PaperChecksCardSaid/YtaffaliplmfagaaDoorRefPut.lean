/-
  warrenerref02.Put.
-/
import Derived.Test.YtaffaliplmfagaaDoorPap3
set_option linter.unusedVariables false
namespace Go.Proofs.YtaffaliplmfagaaDoor.Line
open Go.RowKit Go.Sort Go.Proofs.YtaffaliplmfagaaDoor.Own Go.Proofs.YtaffaliplmfagaaDoor.Conv Go.Proofs.YtaffaliplmfagaaDoor.Calm Go.Proofs.YtaffaliplmfagaaDoor.Oct

theorem digit_is (y i : Nat) (hy : y < 9223372036854775808) (hi : i < 8) (w : World) :
    Calls Tryd.prog 50 #[.int .i64 y, .int .i64 i] w fun e w' => e = .returned (.int .u8 (y / 256 ^ i % 256 : Nat)) ∧ w' = w := by
  have E0 : IntKind.u64.wrap (y : Int) = (y : Int) := by rw [IntKind.wrap_u64]; omega
  have E1 : IntKind.i64.wrap (8 * (i : Int)) = ((8 * i : Nat) : Int) := by rw [IntKind.wrap_i64]; omega
  go_enter Tryd.func50, Tryd.ntmps50
  go_wp2_with fail
  have hp : ((y : Int) / 2 ^ (8 * i)) = ((y / 256 ^ i : Nat) : Int) := by
    rw [show (256 : Nat) ^ i = 2 ^ (8 * i) by rw [Nat.pow_mul]]
    simp
  have hle : y / 256 ^ i ≤ y := Nat.div_le_self _ _
  have hb := bits_and_u64_nat (y / 256 ^ i) 255 (by omega) (by omega)
  rw [show (255 : Nat) = 2 ^ 8 - 1 by decide, Nat.and_two_pow_sub_one_eq_mod] at hb
  have hb2 : bits .and .u64 ((y : Int) / 2 ^ (8 * i)) 255 % 256 = ((y / 256 ^ i % 256 : Nat) : Int) := by
    rw [hp]
    have : ((2 ^ 8 - 1 : Nat) : Int) = 255 := by decide
    rw [this] at hb
    rw [hb]
    omega
  rw [hb2]
  go_ret
  exact ⟨rfl, rfl⟩

theorem beB_take (y n k : Nat) (hk : k < n) : (beB y n).take (k + 1) = (beB y n).take k ++ [((y / 256 ^ (n - 1 - k) % 256 : Nat) : Int)] := by
  have hl : k < (beB y n).length := by rw [beB_len]; exact hk
  rw [List.take_add_one, List.getElem?_eq_getElem hl]
  simp [beB]

set_option maxRecDepth 100000 in
set_option maxHeartbeats 4000000 in
theorem ref02put_is (w : World) (v0 : Value) (m : Nat) (xs : List Int) (hr : Rd w 1 v0 m (bv xs)) (hm : m ≤ 1000000) (x : Int) (n : Nat) (hn : 1 ≤ n) (hn8 : n ≤ 8) (hx : 0 ≤ x ∧ x < 9223372036854775808) :
    Calls Tryd.prog 31 #[v0, .int .i64 x, .int .i64 n] w fun e w' => ∃ v, e = .returned v ∧ Seg w' w.heap.size 5 1 v (m + n) (bv (xs ++ beB x.toNat n)) ∧ Kept No w w' := by
  obtain ⟨i0, hi, hz0, hz1, hz2⟩ := info_parts info_byte
  obtain ⟨y, rfl⟩ : ∃ y : Nat, x = y := ⟨x.toNat, by omega⟩
  have E1 : IntKind.i64.wrap ((n : Int) - 1) = ((n - 1 : Nat) : Int) := by rw [IntKind.wrap_i64]; omega
  have HR := Lib.hid hr
  clear hr
  go_enter Tryd.func31, Tryd.ntmps31
  go_wp2_with (at_builtin; refine wpList_append_rd rfl _ _ 27 rfl w.heap.size 5 i0 (.int .u8 0) 1 1 Tryd.underlying27 hi hz0 hz1 hz2 rfl (by decide) (.slice none 0 0) 0 [] rfl (Seg.nil _ _ _ _) v0 m (bv xs) rfl HR.out ?c2 ?c3 ?c4 (Nat.le_refl _) ?_)
  case c2 =>
    intro u hu
    simp only [bv, List.mem_map] at hu
    obtain ⟨z, _, rfl⟩ := hu
    rfl
  case c3 => unfold maxLen; omega
  case c4 => omega
  intro v1 w1 hs1 hg1 hb1
  have hk1 : Kept No w w1 := (Kept.refl No w).grown hg1 (fun k hk e => by cases e)
  clear hg1 hb1 HR
  go_wp2_with fail
  go_loopw [7, 8] (fun o i wr => ∃ k : Nat, k ≤ n ∧ i = .int .i64 ((n : Int) - 1 - (k : Int)) ∧ Seg wr w.heap.size 5 1 o (m + k) (bv (xs ++ (beB y n).take k)) ∧ Kept No w wr) (fun o i _ => (intOf i + 1).toNat)
  case atStart => exact ⟨0, by omega, by congr 1; omega, by simpa using hs1, hk1⟩
  case round =>
    obtain ⟨k, hk, rfl, hs, hK⟩ := hrel
    by_cases hlt : k < n
    · have e1 : (n : Int) - 1 - (k : Int) = ((n - 1 - k : Nat) : Int) := by omega
      have e2 : IntKind.i64.wrap (((n - 1 - k : Nat) : Int) - 1) = (n : Int) - 1 - ((k + 1 : Nat) : Int) := by rw [IntKind.wrap_i64]; omega
      have htk := beB_take y n k hlt
      have HTK := Lib.hid htk
      obtain ⟨p, hp⟩ : ∃ p, n - 1 - k = p := ⟨_, rfl⟩
      rw [hp] at e1 e2 htk
      have hp8 : p < 8 := by omega
      have hpy : (0 : Int) ≤ (p : Int) := by omega
      rw [e1]
      have HD := Lib.hid (digit_is y p (by omega) hp8)
      have E2 := Lib.hid e2
      have HTK2 := Lib.hid htk
      have HPK := Lib.hid hp
      clear HTK htk e1 hp
      go_wp2_with fail
      refine (HD.out _).mono ?_
      rintro e w2 ⟨rfl, rfl⟩
      have hz := hK.size
      go_wp2_with (at_builtin; refine wpList_append_seg rfl _ _ 27 rfl w.heap.size 5 i0 (.int .u8 0) 1 1 Tryd.underlying27 hi hz0 hz1 hz2 rfl (by decide) _ _ _ rfl (hs.kept ((Kept.refl No _).alloc _) (fun _ _ f => f.elim)) ⟨_, 0, none⟩ 1 1 [.int .u8 (y / 256 ^ p % 256 : Nat)] rfl rfl ?c1 ?c2 ?c3 ?c4 ?c5 ?_)
      case c1 => exact cell_one _ _ _
      case c2 => exact one_int _ _
      case c3 => unfold maxLen; omega
      case c4 => omega
      case c5 => simp; omega
      intro v4 w4 hs4 hg4 hb4
      have hK4 : Kept No w w4 := (hK.alloc _).grown hg4 (fun g hlt hg => by have := (hs.lt g hg).1; omega)
      clear hg4 hb4 hs hK
      go_wp2_with fail
      go_roundw
      case rel =>
        refine ⟨k + 1, by omega, by congr 1, ?_, hK4⟩
        rw [HTK2.out, ← List.append_assoc, bv_app]
        exact hs4
      case measure =>
        have := HPK.out
        simp [intOf]
        omega
    · obtain rfl : k = n := by omega
      rw [List.take_of_length_le (by rw [beB_len]; omega)] at hs
      have e1 : (k : Int) - 1 - (k : Int) = -1 := by omega
      rw [e1]
      go_wp2_with fail
      go_ret
      exact ⟨_, rfl, hs, hK⟩

end Go.Proofs.YtaffaliplmfagaaDoor.Line
