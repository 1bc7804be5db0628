/-
  The reference's decimals.
-/
import Derived.Test.YtaffaliplmfagaaGreatDoorLineLaw
import Derived.Test.YtaffaliplmfagaaGreatDoorConv
import Derived.Test.YtaffaliplmfagaaGreatDoorRows
import Derived.WalkKit
import Derived.Lib.Hide
set_option linter.unusedVariables false
namespace Go.Proofs.YtaffaliplmfagaaGreatDoor.Line
open Go.RowKit Go.Proofs.YtaffaliplmfagaaGreatDoor.Own Go.Proofs.YtaffaliplmfagaaGreatDoor.Conv

/-- A digit. -/
def dgt (d : Nat) : UInt8 := UInt8.ofNat (48 + d)
theorem conv_digit (W : World) (d : Nat) (hd : d < 10) : (convert 28 9 (.slice (some ⟨W.heap.size, 0, none⟩) 1 1)).run Tryz.prog (W.alloc (.cells #[.int .u8 (48 + (d : Int))] 5)) = .ok (.string ⟨#[dgt d]⟩) (W.alloc (.cells #[.int .u8 (48 + (d : Int))] 5)) := by
  have e : Lib.byteCells [dgt d] = [.int .u8 (48 + (d : Int))] := by
    have := dig_toNat d hd
    simp only [Lib.byteCells, dgt, List.map_cons, List.map_nil, this]
    congr 2
  refine conv_string (P := Tryz.prog) _ 28 9 5 _ 1 [dgt d] Tryz.underlying28 Tryz.underlying5 Tryz.underlying9 ?_
  rw [e]
  exact ⟨rfl, _, _, rfl, by omega, by unfold maxLen; omega, (fun h => by cases h), fun _ => ⟨_, _, rfl, by simp, fun j u hu => by have := cell_one W (.int .u8 (48 + (d : Int))) 5 j u hu; rwa [Addr.add_lit] at this⟩⟩

/-- A number's digits; none of 0. -/
def decP (q : Nat) : List UInt8 := if q = 0 then [] else Lib.decDigits q
theorem decP_step (q : Nat) (h : 0 < q) : decP q = decP (q / 10) ++ [dgt (q % 10)] := by
  unfold decP
  rw [if_neg (by omega), Lib.decDigits]
  split
  · rename_i h1
    rw [if_pos (by omega), show q % 10 = q by omega]
    rfl
  · rename_i h1
    rw [if_neg (by omega)]
    rfl
theorem dec_len (u : Nat) (h : u < 18446744073709551616) : (Lib.decDigits u).length ≤ 21 := by
  suffices H : ∀ k u : Nat, u < 10 ^ k → (Lib.decDigits u).length ≤ max k 1 from by
    have := H 20 u (by omega)
    omega
  intro k
  induction k with
  | zero =>
    intro u hu
    rw [Lib.decDigits, dif_pos (by omega)]
    simp
  | succ k ih =>
    intro u hu
    rw [Lib.decDigits]
    split
    · simp <;> omega
    · have := ih (u / 10) (by rw [Nat.pow_succ] at hu; omega)
      rw [List.length_append]
      simp only [List.length_cons, List.length_nil]
      have hk : 1 ≤ k := by
        rcases Nat.eq_zero_or_pos k with h0 | h0
        · subst h0; omega
        · exact h0
      omega
theorem app_mk (a b : List UInt8) : (⟨a.toArray⟩ : ByteArray) ++ (⟨b.toArray⟩ : ByteArray) = ⟨(a ++ b).toArray⟩ := by
  apply ByteArray.ext
  simp

def numOf : Value → Nat
  | .int _ z => z.toNat
  | _ => 0

set_option maxHeartbeats 4000000 in
/-- The loop: a magnitude's digits. -/
theorem refdec_is (n : Int) (h0 : -9223372036854775808 ≤ n) (h1 : n ≤ 9223372036854775807) (w : World) :
    Calls Tryz.prog 20 #[.int .i64 n] w fun e w' => e = .returned (.string ⟨(Lib.itoa n).toArray⟩) ∧ Kept No w w' := by
  by_cases hz : n = 0
  · subst hz
    have e : Lib.itoa 0 = [48] := by decide +kernel
    rw [e]
    clear e
    go_enter Tryz.func20, Tryz.ntmps20
    go_wp2_with fail
    go_ret
    exact ⟨rfl, Kept.refl _ _⟩
  · obtain ⟨u, sg, hu, hu0, hu1, hsg, hit⟩ : ∃ (u : Nat) (sg : List UInt8), (n < 0 ∧ n = -(u : Int) ∧ sg = [45] ∨ 0 ≤ n ∧ n = (u : Int) ∧ sg = []) ∧ 0 < u ∧ u ≤ 9223372036854775808 ∧ sg.length ≤ 1 ∧ Lib.itoa n = sg ++ Lib.decDigits u := by
      by_cases hn : n < 0
      · exact ⟨n.natAbs, [45], .inl ⟨hn, by omega, rfl⟩, by omega, by omega, by simp, by rw [Lib.itoa, if_pos hn]; rfl⟩
      · exact ⟨n.toNat, [], .inr ⟨by omega, by omega, rfl⟩, by omega, by omega, by simp, by rw [Lib.itoa, if_neg hn]; rfl⟩
    have Hit := Lib.hid hit
    have hdl := dec_len u (by omega)
    clear hit
    rcases hu with ⟨hn, rfl, rfl⟩ | ⟨hn, rfl, rfl⟩
    case' inl =>
      have hb0 : (-(u : Int) == 0) = false := by rw [beq_eq_false_iff_ne]; omega
      have hw1 : IntKind.u64.wrap (-(u : Int)) = 18446744073709551616 - (u : Int) := by rw [IntKind.wrap_u64]; omega
      have hw2 : IntKind.u64.wrap (-(18446744073709551616 - (u : Int))) = (u : Int) := by rw [IntKind.wrap_u64]; omega
    case' inr =>
      have hb0 : ((u : Int) == 0) = false := by rw [beq_eq_false_iff_ne]; omega
      have hw1 : IntKind.u64.wrap (u : Int) = (u : Int) := by rw [IntKind.wrap_u64]; omega
    all_goals
      go_enter Tryz.func20, Tryz.ntmps20
      go_wp2_with fail
      go_loopw [3, 5] (fun m s wr => ∃ (q : Nat) (t : List UInt8) (sb : ByteArray), m = .int .u64 q ∧ s = .string sb ∧ q ≤ u ∧ Hid (sb = ⟨t.toArray⟩) ∧ Hid (decP q ++ t = Lib.decDigits u) ∧ Kept No w wr) (fun m _ _ => numOf m)
      case atStart => exact ⟨u, [], ⟨#[]⟩, rfl, rfl, Nat.le_refl _, Lib.hid rfl, Lib.hid (by rw [decP, if_neg (by omega), List.append_nil]), Kept.refl _ _⟩
      case round =>
        obtain ⟨q, t, sb, rfl, rfl, hqu, hsb, hdt, hK⟩ := hrel
        have htl : t.length ≤ 21 := by
          have := congrArg List.length hdt.out
          rw [List.length_append] at this
          omega
        have hss : sb.size ≤ 21 := by rw [hsb.out]; simp [ByteArray.size]; omega
        by_cases hq : 0 < q
        · have hst := decP_step q hq
          have hdt2 := hdt.out
          rw [hst, List.append_assoc] at hdt2
          have hcv := conv_digit wr (q % 10) (by omega)
          have hap : (⟨#[dgt (q % 10)]⟩ : ByteArray) ++ sb = ⟨([dgt (q % 10)] ++ t).toArray⟩ := by rw [hsb.out]; exact app_mk [dgt (q % 10)] t
          have Hdt2 := Lib.hid hdt2
          have Hap := Lib.hid hap
          have e1 : (q : Int) % 10 = ((q % 10 : Nat) : Int) := by omega
          have e2 : IntKind.u8.wrap (48 + ((q % 10 : Nat) : Int)) = 48 + ((q % 10 : Nat) : Int) := by rw [IntKind.wrap_u8]; omega
          have e3 : (q : Int) / 10 = ((q / 10 : Nat) : Int) := by omega
          have hlt : q / 10 < q := by omega
          have hr9 : q % 10 < 10 := by omega
          obtain ⟨r, hr⟩ : ∃ r, q % 10 = r := ⟨_, rfl⟩
          obtain ⟨q', hq'⟩ : ∃ q', q / 10 = q' := ⟨_, rfl⟩
          rw [hr] at hcv e1 e2 Hap Hdt2 hr9
          rw [hq'] at e3 hlt Hdt2
          clear hst hdt2 hap hr hq'
          go_wp2_with fail
          go_roundw
          case rel => exact ⟨q', [dgt r] ++ t, _, by go_num, rfl, by omega, Hap, Hdt2, hK.alloc _⟩
          case measure => simp only [numOf]; omega
        · obtain rfl : q = 0 := by omega
          have hdt2 := hdt.out
          rw [decP, if_pos rfl, List.nil_append] at hdt2
          have Hdt2 := Lib.hid hdt2
          clear hdt2
          go_wp2_with fail
          go_ret
          rw [Hit.out, ← Hdt2.out]
          refine ⟨?_, hK⟩
          first
            | (show Ending.returned (.string ((⟨#[45]⟩ : ByteArray) ++ sb)) = _; rw [hsb.out]; exact congrArg (fun b => Ending.returned (.string b)) (app_mk [45] t))
            | (show Ending.returned (.string ((⟨#[]⟩ : ByteArray) ++ sb)) = _; rw [hsb.out]; exact congrArg (fun b => Ending.returned (.string b)) (app_mk [] t))
            | (show Ending.returned (.string sb) = _; rw [hsb.out]; rfl)
end Go.Proofs.YtaffaliplmfagaaGreatDoor.Line
