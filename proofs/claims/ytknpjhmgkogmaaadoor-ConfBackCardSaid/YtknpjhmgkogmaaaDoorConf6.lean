/-
  A config and an ask as octets, plainly: what the statement's own reference says.
-/
import Derived.Test.YtknpjhmgkogmaaaDoorConf3
set_option linter.unusedVariables false
namespace Go.Proofs.YtknpjhmgkogmaaaDoor.Line
open Go.RowKit Go.Sort Go.Proofs.YtknpjhmgkogmaaaDoor.Own Go.Proofs.YtknpjhmgkogmaaaDoor.Conv Go.Proofs.YtknpjhmgkogmaaaDoor.Calm Go.Proofs.YtknpjhmgkogmaaaDoor.Oct

theorem digit_is (y i : Nat) (hy : y < 9223372036854775808) (hi : i < 8) (w : World) :
    Calls Tryd.prog 47 #[.int .i64 y, .int .i64 i] w fun e w' => e = .returned (.int .u8 (y / 256 ^ i % 256 : Nat)) ∧ w' = w := by
  have E0 : IntKind.u64.wrap (y : Int) = (y : Int) := by rw [IntKind.wrap_u64]; omega
  have E1 : IntKind.i64.wrap (8 * (i : Int)) = ((8 * i : Nat) : Int) := by rw [IntKind.wrap_i64]; omega
  go_enter Tryd.func47, Tryd.ntmps47
  go_wp2_with fail
  have hp : ((y : Int) / 2 ^ (8 * i)) = ((y / 256 ^ i : Nat) : Int) := by
    rw [show (256 : Nat) ^ i = 2 ^ (8 * i) by rw [Nat.pow_mul]]
    simp
  have hle : y / 256 ^ i ≤ y := Nat.div_le_self _ _
  have hb := bits_and_u64_nat (y / 256 ^ i) 255 (by omega) (by omega)
  rw [show (255 : Nat) = 2 ^ 8 - 1 by decide, Nat.and_two_pow_sub_one_eq_mod] at hb
  have hb2 : bits .and .u64 ((y : Int) / 2 ^ (8 * i)) 255 % 256 = ((y / 256 ^ i % 256 : Nat) : Int) := by
    rw [hp]
    have : ((2 ^ 8 - 1 : Nat) : Int) = 255 := by decide
    rw [this] at hb
    rw [hb]
    omega
  rw [hb2]
  go_ret
  exact ⟨rfl, rfl⟩

theorem beB_take (y n k : Nat) (hk : k < n) : (beB y n).take (k + 1) = (beB y n).take k ++ [((y / 256 ^ (n - 1 - k) % 256 : Nat) : Int)] := by
  have hl : k < (beB y n).length := by rw [beB_len]; exact hk
  rw [List.take_add_one, List.getElem?_eq_getElem hl]
  simp [beB]

set_option maxRecDepth 100000 in
set_option maxHeartbeats 4000000 in
theorem ref02put_is (w : World) (v0 : Value) (m : Nat) (xs : List Int) (hr : Rd w 1 v0 m (bv xs)) (hm : m ≤ 1000000) (x : Int) (n : Nat) (hn : 1 ≤ n) (hn8 : n ≤ 8) (hx : 0 ≤ x ∧ x < 9223372036854775808) :
    Calls Tryd.prog 34 #[v0, .int .i64 x, .int .i64 n] w fun e w' => ∃ v, e = .returned v ∧ Seg w' w.heap.size 5 1 v (m + n) (bv (xs ++ beB x.toNat n)) ∧ Kept No w w' := by
  obtain ⟨i0, hi, hz0, hz1, hz2⟩ := info_parts info_byte
  obtain ⟨y, rfl⟩ : ∃ y : Nat, x = y := ⟨x.toNat, by omega⟩
  have E1 : IntKind.i64.wrap ((n : Int) - 1) = ((n - 1 : Nat) : Int) := by rw [IntKind.wrap_i64]; omega
  have HR := Lib.hid hr
  clear hr
  go_enter Tryd.func34, Tryd.ntmps34
  go_wp2_with (at_builtin; refine wpList_append_rd rfl _ _ 29 rfl w.heap.size 5 i0 (.int .u8 0) 1 1 Tryd.underlying29 hi hz0 hz1 hz2 rfl (by decide) (.slice none 0 0) 0 [] rfl (Seg.nil _ _ _ _) v0 m (bv xs) rfl HR.out ?c2 ?c3 ?c4 (Nat.le_refl _) ?_)
  case c2 =>
    intro u hu
    simp only [bv, List.mem_map] at hu
    obtain ⟨z, _, rfl⟩ := hu
    rfl
  case c3 => unfold maxLen; omega
  case c4 => omega
  intro v1 w1 hs1 hg1 hb1
  have hk1 : Kept No w w1 := (Kept.refl No w).grown hg1 (fun k hk e => by cases e)
  clear hg1 hb1 HR
  go_wp2_with fail
  go_loopw [7, 8] (fun o i wr => ∃ k : Nat, k ≤ n ∧ i = .int .i64 ((n : Int) - 1 - (k : Int)) ∧ Seg wr w.heap.size 5 1 o (m + k) (bv (xs ++ (beB y n).take k)) ∧ Kept No w wr) (fun o i _ => (intOf i + 1).toNat)
  case atStart => exact ⟨0, by omega, by congr 1; omega, by simpa using hs1, hk1⟩
  case round =>
    obtain ⟨k, hk, rfl, hs, hK⟩ := hrel
    by_cases hlt : k < n
    · have e1 : (n : Int) - 1 - (k : Int) = ((n - 1 - k : Nat) : Int) := by omega
      have e2 : IntKind.i64.wrap (((n - 1 - k : Nat) : Int) - 1) = (n : Int) - 1 - ((k + 1 : Nat) : Int) := by rw [IntKind.wrap_i64]; omega
      have htk := beB_take y n k hlt
      have HTK := Lib.hid htk
      obtain ⟨p, hp⟩ : ∃ p, n - 1 - k = p := ⟨_, rfl⟩
      rw [hp] at e1 e2 htk
      have hp8 : p < 8 := by omega
      have hpy : (0 : Int) ≤ (p : Int) := by omega
      rw [e1]
      have HD := Lib.hid (digit_is y p (by omega) hp8)
      have E2 := Lib.hid e2
      have HTK2 := Lib.hid htk
      have HPK := Lib.hid hp
      clear HTK htk e1 hp
      go_wp2_with fail
      refine (HD.out _).mono ?_
      rintro e w2 ⟨rfl, rfl⟩
      have hz := hK.size
      go_wp2_with (at_builtin; refine wpList_append_seg rfl _ _ 29 rfl w.heap.size 5 i0 (.int .u8 0) 1 1 Tryd.underlying29 hi hz0 hz1 hz2 rfl (by decide) _ _ _ rfl (hs.kept ((Kept.refl No _).alloc _) (fun _ _ f => f.elim)) ⟨_, 0, none⟩ 1 1 [.int .u8 (y / 256 ^ p % 256 : Nat)] rfl rfl ?c1 ?c2 ?c3 ?c4 ?c5 ?_)
      case c1 => exact cell_one _ _ _
      case c2 => exact one_int _ _
      case c3 => unfold maxLen; omega
      case c4 => omega
      case c5 => simp; omega
      intro v4 w4 hs4 hg4 hb4
      have hK4 : Kept No w w4 := (hK.alloc _).grown hg4 (fun g hlt hg => by have := (hs.lt g hg).1; omega)
      clear hg4 hb4 hs hK
      go_wp2_with fail
      go_roundw
      case rel =>
        refine ⟨k + 1, by omega, by congr 1, ?_, hK4⟩
        rw [HTK2.out, ← List.append_assoc, bv_app]
        exact hs4
      case measure =>
        have := HPK.out
        simp [intOf]
        omega
    · obtain rfl : k = n := by omega
      rw [List.take_of_length_le (by rw [beB_len]; omega)] at hs
      have e1 : (k : Int) - 1 - (k : Int) = -1 := by omega
      rw [e1]
      go_wp2_with fail
      go_ret
      exact ⟨_, rfl, hs, hK⟩

theorem beB_one (z : Int) (h0 : 0 ≤ z) (h1 : z < 256) : beB z.toNat 1 = [z] := by
  simp [beB]
  omega
theorem confB_six {sc od th fu de mo bu : Int} (h1 : isCfg sc od th fu de = true) (h2 : isAsk mo bu = true) : confB (fV sc od th fu de mo bu) 6 = [sc, od, th, fu, de, mo] := by
  unfold isCfg at h1
  unfold isAsk at h2
  simp only [decide_eq_true_eq] at h1 h2
  have e0 := beB_one sc (by omega) (by omega)
  have e1 := beB_one od (by omega) (by omega)
  have e2 := beB_one th (by omega) (by omega)
  have e3 := beB_one fu (by omega) (by omega)
  have e4 := beB_one de (by omega) (by omega)
  have e5 := beB_one mo (by omega) (by omega)
  have q : ∀ k, confB (fV sc od th fu de mo bu) (k + 1) = confB (fV sc od th fu de mo bu) k ++ beB (fV sc od th fu de mo bu k).toNat (fW k) := confB_succ _
  rw [q 5, q 4, q 3, q 2, q 1, q 0]
  simp [fV, fW, e0, e1, e2, e3, e4, e5, confB]
theorem putL_eq {sc od th fu de mo bu : Int} (h1 : isCfg sc od th fu de = true) (h2 : isAsk mo bu = true) (st : Bool) : putL sc od th fu de mo bu st = [sc, od, th, fu, de, mo] ++ beB bu.toNat 3 ++ [if st then 1 else 0] := by
  unfold putL
  rw [confB_succ, confB_six h1 h2]
  rfl

set_option maxRecDepth 100000 in
set_option maxHeartbeats 4000000 in
theorem refput_is (sc od th fu de mo bu : Int) (st : Bool) (h1 : isCfg sc od th fu de = true) (h2 : isAsk mo bu = true) (w : World) :
    Calls Tryd.prog 14 #[.agg #[.int .i64 sc, .int .i64 od, .int .i64 th, .int .i64 fu, .int .i64 de], .agg #[.int .i64 mo, .int .i64 bu, .bool st]] w fun e w' => ∃ v n, e = .returned v ∧ Seg w' w.heap.size 5 1 v n (bv (putL sc od th fu de mo bu st)) ∧ Kept No w w' := by
  obtain ⟨i0, hi, hz0, hz1, hz2⟩ := info_parts info_byte
  have HP := Lib.hid (putL_eq h1 h2 st)
  have q : (0 ≤ sc ∧ sc ≤ 3) ∧ (0 ≤ od ∧ od ≤ 1) ∧ (1 ≤ th ∧ th ≤ 8) ∧ (0 ≤ fu ∧ fu ≤ 16) ∧ (1 ≤ de ∧ de ≤ 4) ∧ (1 ≤ mo ∧ mo ≤ 3) ∧ (0 ≤ bu ∧ bu ≤ 1048576) := by
    unfold isCfg at h1
    unfold isAsk at h2
    simp only [decide_eq_true_eq] at h1 h2
    omega
  have u0 : IntKind.u8.wrap sc = sc := by rw [IntKind.wrap_u8]; omega
  have u1 : IntKind.u8.wrap od = od := by rw [IntKind.wrap_u8]; omega
  have u2 : IntKind.u8.wrap th = th := by rw [IntKind.wrap_u8]; omega
  have u3 : IntKind.u8.wrap fu = fu := by rw [IntKind.wrap_u8]; omega
  have u4 : IntKind.u8.wrap de = de := by rw [IntKind.wrap_u8]; omega
  have u5 : IntKind.u8.wrap mo = mo := by rw [IntKind.wrap_u8]; omega
  have HQ := Lib.hid q
  have hbx := (Box.new w #[.int .i64 sc, .int .i64 od, .int .i64 th, .int .i64 fu, .int .i64 de] 23).alloc (.cells #[.int .i64 mo, .int .i64 bu, .bool st] 25)
  have hby := Box.new (w.alloc (.cells #[.int .i64 sc, .int .i64 od, .int .i64 th, .int .i64 fu, .int .i64 de] 23)) #[.int .i64 mo, .int .i64 bu, .bool st] 25
  have hk : Kept No w ((w.alloc (.cells #[.int .i64 sc, .int .i64 od, .int .i64 th, .int .i64 fu, .int .i64 de] 23)).alloc (.cells #[.int .i64 mo, .int .i64 bu, .bool st] 25)) := ((Kept.refl _ _).alloc _).alloc _
  simp only [World.size_alloc] at hby
  clear h1 h2 q
  go_enter Tryd.func14, Tryd.ntmps14
  go_upto_region 1 with fail
  generalize (w.alloc (.cells #[.int .i64 sc, .int .i64 od, .int .i64 th, .int .i64 fu, .int .i64 de] 23)).alloc (.cells #[.int .i64 mo, .int .i64 bu, .bool st] 25) = w0 at *
  have c0 : w0.cell? ⟨w.heap.size, 0, none⟩ = some (.int .i64 sc) := hbx.cell 0
  have c1 : w0.cell? ⟨w.heap.size, 1, none⟩ = some (.int .i64 od) := hbx.cell 1
  have c2 : w0.cell? ⟨w.heap.size, 2, none⟩ = some (.int .i64 th) := hbx.cell 2
  have c3 : w0.cell? ⟨w.heap.size, 3, none⟩ = some (.int .i64 fu) := hbx.cell 3
  have c4 : w0.cell? ⟨w.heap.size, 4, none⟩ = some (.int .i64 de) := hbx.cell 4
  have d0 : w0.cell? ⟨w.heap.size + 1, 0, none⟩ = some (.int .i64 mo) := hby.cell 0
  go_upto_region 2 with fail
  have hb1 := Box.new w0 #[.int .u8 sc, .int .u8 od, .int .u8 th, .int .u8 fu, .int .u8 de, .int .u8 mo] 5
  have hy1 := hby.alloc (.cells #[.int .u8 sc, .int .u8 od, .int .u8 th, .int .u8 fu, .int .u8 de, .int .u8 mo] 5)
  have hk1 := hk.alloc (.cells #[.int .u8 sc, .int .u8 od, .int .u8 th, .int .u8 fu, .int .u8 de, .int .u8 mo] 5)
  generalize w0.alloc _ = w1 at *
  generalize w0.heap.size = b1 at *
  clear c0 c1 c2 c3 c4 d0 hbx hby hk u0 u1 u2 u3 u4 u5
  have d1 : w1.cell? ⟨w.heap.size + 1, 1, none⟩ = some (.int .i64 bu) := hy1.cell 1
  have hrd : Rd w1 1 (.slice (some ⟨b1, 0, none⟩) 6 6) 6 (bv [sc, od, th, fu, de, mo]) := box_rd hb1 rfl 6 rfl (by simp [maxLen])
  go_wp2_with fail
  refine (ref02put_is w1 _ 6 [sc, od, th, fu, de, mo] hrd (by omega) bu 3 (by omega) (by omega) (by have := HQ.out; omega)).mono ?_
  rintro e w2 ⟨v, rfl, hs2, k2⟩
  have hy2 := hy1.kept k2 id
  have hk2 := hk1.trans k2 (fun _ _ f => f)
  have hs3 := hs2.mono hk1.size
  have d2 : w2.cell? ⟨w.heap.size + 1, 2, none⟩ = some (.bool st) := hy2.cell 2
  have hz := hk2.size
  clear hb1 hy1 hk1 d1 hrd hs2 k2 hy2
  cases st with
  | false =>
    go_wp2_with (at_builtin; refine wpList_append_seg rfl _ _ 29 rfl w.heap.size 5 i0 (.int .u8 0) 1 1 Tryd.underlying29 hi hz0 hz1 hz2 rfl (by decide) _ _ _ rfl (hs3.kept ((Kept.refl No _).alloc _) (fun _ _ f => f.elim)) ⟨_, 0, none⟩ 1 1 [.int .u8 0] rfl rfl ?c1 ?c2 ?c3 ?c4 ?c5 ?_)
    case c1 => exact cell_one _ _ _
    case c2 => exact one_int _ _
    case c3 => unfold maxLen; omega
    case c4 => omega
    case c5 => simp; omega
    intro v4 w4 hs4 hg4 hb4
    have hK4 : Kept No w w4 := (hk2.alloc _).grown hg4 (fun g hlt hg => by have := (hs3.lt g hg).1; omega)
    go_wp2_with fail
    go_ret
    refine ⟨v4, 6 + 3 + 1, rfl, ?_, hK4⟩
    rw [HP.out, bv_app]
    exact hs4
  | true =>
    go_wp2_with (at_builtin; refine wpList_append_seg rfl _ _ 29 rfl w.heap.size 5 i0 (.int .u8 0) 1 1 Tryd.underlying29 hi hz0 hz1 hz2 rfl (by decide) _ _ _ rfl (hs3.kept ((Kept.refl No _).alloc _) (fun _ _ f => f.elim)) ⟨_, 0, none⟩ 1 1 [.int .u8 1] rfl rfl ?c1 ?c2 ?c3 ?c4 ?c5 ?_)
    case c1 => exact cell_one _ _ _
    case c2 => exact one_int _ _
    case c3 => unfold maxLen; omega
    case c4 => omega
    case c5 => simp; omega
    intro v4 w4 hs4 hg4 hb4
    have hK4 : Kept No w w4 := (hk2.alloc _).grown hg4 (fun g hlt hg => by have := (hs3.lt g hg).1; omega)
    go_wp2_with fail
    go_ret
    refine ⟨v4, 6 + 3 + 1, rfl, ?_, hK4⟩
    rw [HP.out, bv_app]
    exact hs4
end Go.Proofs.YtknpjhmgkogmaaaDoor.Line
