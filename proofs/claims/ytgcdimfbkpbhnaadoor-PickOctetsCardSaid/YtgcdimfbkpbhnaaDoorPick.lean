/-
  Package pick: names and agents.
-/
import Derived.Test.YtgcdimfbkpbhnaaDoorRows
import Derived.Test.YtgcdimfbkpbhnaaDoorOwn
import Derived.Test.YtgcdimfbkpbhnaaDoorShelf
import Derived.WalkKit
import Derived.Lib.Hide
set_option linter.unusedVariables false
namespace Go.Proofs.YtgcdimfbkpbhnaaDoor.Pick
open Go.RowKit Go.Proofs.YtgcdimfbkpbhnaaDoor.Own

theorem in_is (n lo hi : Int) (w : World) :
    Calls Tryd.prog 18 #[.int .i64 n, .int .i64 lo, .int .i64 hi] w fun e w' => e = .returned (.bool (decide (lo ≤ n ∧ n ≤ hi))) ∧ w' = w := by
  go_enter Tryd.func18, Tryd.ntmps18
  by_cases h0 : lo ≤ n
  · go_wp2_with fail
    all_goals
      go_ret
      simp
      omega
  · go_wp2_with fail
    all_goals
      go_ret
      simp
      omega

theorem decimal_is (i : Nat) (hi : i < 100) (w : World) :
    Calls Tryd.prog 19 #[.int .i64 i] w fun e w' => e = .returned (.string ⟨(Lib.itoa i).toArray⟩) ∧ w' = w := by
  go_enter Tryd.func19, Tryd.ntmps19
  go_wp2_with fail
  refine (Tryd.strconv_FormatInt_10_small i hi _).mono ?_
  rintro e w' ⟨rfl, rfl⟩
  go_wp2_with fail
  go_ret
  exact ⟨rfl, rfl⟩

def dig (n : Nat) : UInt8 := UInt8.ofNat (48 + n)
theorem itoa_digit : ∀ i : Nat, i < 10 → Lib.itoa (i : Int) = [dig i] := by decide +kernel
theorem digit_is (i : Nat) (hi : i < 10) (w : World) :
    Calls Tryd.prog 19 #[.int .i64 i] w fun e w' => e = .returned (.string ⟨#[dig i]⟩) ∧ w' = w := by
  refine (decimal_is i (by omega) w).mono ?_
  rintro e w' ⟨rfl, rfl⟩
  rw [itoa_digit i hi]
  exact ⟨rfl, rfl⟩
theorem append_two (x y : UInt8) : (⟨#[x]⟩ : ByteArray) ++ (⟨#[y]⟩ : ByteArray) = ⟨#[x, y]⟩ := by
  apply ByteArray.ext
  simp
/-- An agent's name. -/
def nameL (a t : Int) : List UInt8 := if 0 ≤ t ∧ t ≤ 4 ∧ 0 ≤ a ∧ a < 2 * t then (if a < t then [116, dig a.toNat] else [102, dig (a - t).toNat]) else []

set_option maxHeartbeats 1000000 in
theorem name_is (a t : Int) (w : World) :
    Calls Tryd.prog 8 #[.int .i64 a, .int .i64 t] w fun e w' => e = .returned (.string ⟨(nameL a t).toArray⟩) ∧ w' = w := by
  go_enter Tryd.func8, Tryd.ntmps8
  by_cases ht : 0 ≤ t ∧ t ≤ 4
  · have e1 : IntKind.i64.wrap (IntKind.i64.wrap (2 * t) - 1) = 2 * t - 1 := by rw [IntKind.wrap_i64, IntKind.wrap_i64]; omega
    have d1 : decide (0 ≤ t ∧ t ≤ 4) = true := by simp [ht]
    by_cases ha : 0 ≤ a ∧ a ≤ 2 * t - 1
    · have d2 : decide (0 ≤ a ∧ a ≤ 2 * t - 1) = true := by simp [ha]
      by_cases hlt : a < t
      · obtain ⟨n, rfl⟩ : ∃ n : Nat, a = n := ⟨a.toNat, by omega⟩
        go_wp2_with (first
          | (go_at_call 18; refine (in_is _ _ _ _).mono ?_; rintro e w' ⟨rfl, rfl⟩)
          | (go_at_call 19; refine (digit_is n (by omega) _).mono ?_; rintro e w' ⟨rfl, rfl⟩))
        go_ret
        rw [append_two]
        have h1 : 0 ≤ t ∧ t ≤ 4 ∧ 0 ≤ (n : Int) ∧ (n : Int) < 2 * t := by omega
        simp [nameL, h1, hlt]
      · obtain ⟨n, hn⟩ : ∃ n : Nat, a - t = n := ⟨(a - t).toNat, by omega⟩
        have e2 : IntKind.i64.wrap (a - t) = (n : Int) := by rw [IntKind.wrap_i64]; omega
        go_wp2_with (first
          | (go_at_call 18; refine (in_is _ _ _ _).mono ?_; rintro e w' ⟨rfl, rfl⟩)
          | (go_at_call 19; refine (digit_is n (by omega) _).mono ?_; rintro e w' ⟨rfl, rfl⟩))
        go_ret
        rw [append_two]
        have h1 : 0 ≤ t ∧ t ≤ 4 ∧ 0 ≤ a ∧ a < 2 * t := by omega
        have h2 : ¬ a < t := by omega
        simp only [nameL, h1, h2, and_self, if_true, if_false]
        have h3 : (a - t).toNat = n := by omega
        rw [h3]
        simp
    · have d2 : decide (0 ≤ a ∧ a ≤ 2 * t - 1) = false := by simp; omega
      go_wp2_with (first
        | (go_at_call 18; refine (in_is _ _ _ _).mono ?_; rintro e w' ⟨rfl, rfl⟩))
      go_ret
      have h1 : ¬ (0 ≤ t ∧ t ≤ 4 ∧ 0 ≤ a ∧ a < 2 * t) := by omega
      simp [nameL, h1]
  · have d1 : decide (0 ≤ t ∧ t ≤ 4) = false := by simp; omega
    go_wp2_with (first
      | (go_at_call 18; refine (in_is _ _ _ _).mono ?_; rintro e w' ⟨rfl, rfl⟩))
    go_ret
    have : ¬ (0 ≤ t ∧ t ≤ 4 ∧ 0 ≤ a ∧ a < 2 * t) := by omega
    simp [nameL, this]

/-- The agent of a name, the agents from k on being looked at. -/
def agentFrom (s : List UInt8) (t : Int) (k : Nat) : Option Nat := if h : k < 8 then (if s ≠ [] ∧ nameL k t = s then some k else agentFrom s t (k + 1)) else none
termination_by 8 - k
def agentL (s : List UInt8) (t : Int) : Option Nat := agentFrom s t 0
theorem agentFrom_step (s : List UInt8) (t : Int) (k : Nat) (h : k < 8) : agentFrom s t k = if s ≠ [] ∧ nameL k t = s then some k else agentFrom s t (k + 1) := by
  rw [agentFrom, dif_pos h]
theorem agentFrom_end (s : List UInt8) (t : Int) : agentFrom s t 8 = none := by rw [agentFrom]; simp

set_option maxHeartbeats 1000000 in
theorem agent_is (s : ByteArray) (t : Int) (w : World) :
    Calls Tryd.prog 9 #[.string s, .int .i64 t] w fun e w' => e = .returned (.tuple #[.int .i64 ((agentL s.data.toList t).getD 0), .bool (agentL s.data.toList t).isSome]) ∧ w' = w := by
  go_enter Tryd.func9, Tryd.ntmps9
  go_wp2_with fail
  go_loop [7, 6] (fun i _ => ∃ k : Nat, k ≤ 8 ∧ i = .int .i64 k ∧ agentFrom s.data.toList t k = agentL s.data.toList t) (fun i _ => 8 - (intOf i).toNat)
  case atStart => exact ⟨0, by omega, rfl, rfl⟩
  case round =>
    obtain ⟨k, hk, rfl, hno⟩ := hrel
    by_cases h8 : k < 8
    · have hst := agentFrom_step s.data.toList t k h8
      have hT := ByteArray.toList_eq s
      rw [← hT] at hst hno
      have HT := Lib.hid hT
      clear hT
      by_cases hs : s.toList = []
      · rw [if_neg (fun h => h.1 hs)] at hst
        go_wp2_with fail
        go_round
        case rel => exact ⟨k + 1, by omega, by go_num, by rw [← HT.out, ← hno, hst]⟩
        case measure => simp [intOf]; omega
      · have he : (!s.toList.isEmpty) = true := by simp [hs]
        by_cases hq : nameL k t = s.toList
        · rw [if_pos ⟨hs, hq⟩] at hst
          have ha : agentL s.toList t = some k := by rw [← hno, hst]
          have hq' : (nameL k t == s.toList) = true := by rw [beq_iff_eq]; exact hq
          have HA := Lib.hid ha
          clear ha hst hno
          go_wp2_with fail
          refine (name_is k t _).mono ?_
          rintro e w' ⟨rfl, rfl⟩
          go_wp2_with fail
          go_ret2
          rw [← HT.out, HA.out]
          exact ⟨rfl, rfl⟩
        · rw [if_neg (fun h => hq h.2)] at hst
          have hq' : (nameL k t == s.toList) = false := by rw [beq_eq_false_iff_ne]; exact hq
          go_wp2_with fail
          refine (name_is k t _).mono ?_
          rintro e w' ⟨rfl, rfl⟩
          go_wp2_with fail
          go_round
          case rel => exact ⟨k + 1, by omega, by go_num, by rw [← HT.out, ← hno, hst]⟩
          case measure => simp [intOf]; omega
    · obtain rfl : k = 8 := by omega
      have ha : agentL s.data.toList t = none := by rw [← hno, agentFrom_end]
      rw [ha]
      go_wp2_with fail
      go_ret2
      exact ⟨rfl, rfl⟩
end Go.Proofs.YtgcdimfbkpbhnaaDoor.Pick
