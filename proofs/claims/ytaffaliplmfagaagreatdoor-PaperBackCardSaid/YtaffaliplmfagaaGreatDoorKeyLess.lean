/-
  Which of two keys comes first.
-/
import Derived.Test.YtaffaliplmfagaaGreatDoorLine
import Derived.Test.YtaffaliplmfagaaGreatDoorKeysLaw
import Derived.BigQuiet
set_option linter.unusedVariables false
namespace Go.Proofs.YtaffaliplmfagaaGreatDoor.Line
open Go.RowKit Go.Sort Go.Proofs.YtaffaliplmfagaaGreatDoor.Own Go.Proofs.YtaffaliplmfagaaGreatDoor.Conv

def orI : List Int → Int
  | [] => 0
  | x :: r => if x ≠ 0 then x else orI r

set_option maxHeartbeats 2000000 in
theorem or_is (w : World) (v : Value) (n : Nat) (xs : List Int) (hx : Rd w 1 v n (vals xs)) :
    Calls Tryz.prog 62 #[v] w fun e w' => e = .returned (.int .i64 (orI xs)) ∧ Kept No w w' := by
  obtain ⟨hl, ao, lc, rfl, hc, hm, hn, hR⟩ := hx
  rw [vals_len, Nat.mul_one] at hl
  unfold maxLen at hm
  have HR := Lib.hid hR
  have hl1 : xs.length ≤ n := by omega
  have hl2 : n ≤ xs.length := by omega
  clear hR hl
  go_enter Tryz.func62, Tryz.ntmps62
  go_wp2_with fail
  go_loopw [8] (fun i wr => ∃ k : Nat, k ≤ n ∧ i = .int .i64 k ∧ Hid (orI xs = orI (xs.drop k)) ∧ Kept No w wr) (fun i _ => n - (intOf i).toNat)
  case atStart => exact ⟨0, by omega, rfl, Lib.hid rfl, Kept.refl _ _⟩
  case round =>
    obtain ⟨k, hk, rfl, ht, hK⟩ := hrel
    by_cases hlt : k < n
    · obtain ⟨g, o, rfl, hg, hcell⟩ := HR.out (by omega)
      have c : wr.cell? ⟨g, o + k, none⟩ = some (.int .i64 (xs[k]'(by omega))) := (hK.cell (p := ⟨g, o + k, none⟩) hg id).trans (hcell k _ (by simp [vals]))
      have hd : xs.drop k = xs[k]'(by omega) :: xs.drop (k + 1) := List.drop_eq_getElem_cons (by omega)
      generalize xs[k]'(by omega) = x at *
      clear hcell
      by_cases h0 : x = 0
      · have hq : (x != 0) = false := by simp [h0]
        have Hn : Hid (orI xs = orI (xs.drop (k + 1))) := Lib.hid (by rw [ht.out, hd, orI, if_neg (by simp [h0])])
        clear hd h0
        go_wp2_with fail
        go_roundw
        case rel => exact ⟨k + 1, by omega, by go_num, Hn, hK⟩
        case measure => simp [intOf]; omega
      · have hq : (x != 0) = true := by simp [h0]
        have Hn : Hid (orI xs = x) := Lib.hid (by rw [ht.out, hd, orI, if_pos h0])
        clear hd h0
        go_wp2_with fail
        go_ret
        rw [Hn.out]
        exact ⟨rfl, hK⟩
    · obtain rfl : k = n := by omega
      have Hn : Hid (orI xs = 0) := Lib.hid (by rw [ht.out, List.drop_eq_nil_of_le (by omega), orI])
      go_wp2_with fail
      go_ret
      rw [Hn.out]
      exact ⟨rfl, hK⟩

set_option maxHeartbeats 2000000 in
theorem refless_is (k i j k2 i2 j2 : Int) (w : World) :
    Calls Tryz.prog 18 #[.agg #[.int .i64 k, .int .i64 i, .int .i64 j], .agg #[.int .i64 k2, .int .i64 i2, .int .i64 j2]] w fun e w' => e = .returned (.bool (lessB k i j k2 i2 j2)) ∧ Kept No w w' := by
  obtain ⟨b, hb⟩ : ∃ b, lessB k i j k2 i2 j2 = b := ⟨_, rfl⟩
  rw [hb]
  have HB := Lib.hid hb
  clear hb
  have hk : Kept No w ((w.alloc (.cells #[.int .i64 k, .int .i64 i, .int .i64 j] 45)).alloc (.cells #[.int .i64 k2, .int .i64 i2, .int .i64 j2] 45)) := ((Kept.refl _ _).alloc _).alloc _
  have HK := Lib.hid hk
  clear hk
  go_enter Tryz.func18, Tryz.ntmps18
  by_cases h1 : k = k2
  · have q1 : (k != k2) = false := by simp [h1]
    by_cases h2 : i = i2
    · have q2 : (i != i2) = false := by simp [h2]
      have hb : decide (j < j2) = b := by rw [← HB.out, lessB, if_neg (by simp [h1]), if_neg (by simp [h2])]
      have Hb := Lib.hid hb
      clear h1 h2 hb
      go_wp2_with fail
      go_ret
      exact ⟨by rw [← Hb.out]; rfl, HK.out⟩
    · have q2 : (i != i2) = true := by simp [h2]
      have hb : decide (i < i2) = b := by rw [← HB.out, lessB, if_neg (by simp [h1]), if_pos h2]
      have Hb := Lib.hid hb
      clear h1 h2 hb
      go_wp2_with fail
      go_ret
      exact ⟨by rw [← Hb.out]; rfl, HK.out⟩
  · have q1 : (k != k2) = true := by simp [h1]
    have hb : decide (k < k2) = b := by rw [← HB.out, lessB, if_pos h1]
    have Hb := Lib.hid hb
    clear h1 hb
    go_wp2_with fail
    go_ret
    exact ⟨by rw [← Hb.out]; rfl, HK.out⟩
theorem cmp_cases (x y : Int) : (x < y ∧ Lib.compareInt x y = -1) ∨ (x = y ∧ Lib.compareInt x y = 0) ∨ (y < x ∧ Lib.compareInt x y = 1) := by
  unfold Lib.compareInt
  by_cases h1 : x < y
  · left; exact ⟨h1, by simp [h1]⟩
  · by_cases h2 : x = y
    · right; left; exact ⟨h2, by simp [h2]⟩
    · right; right; refine ⟨by omega, ?_⟩
      have : y < x := by omega
      simp [h1, this]
theorem less_or (k i j k2 i2 j2 : Int) : decide (orI [Lib.compareInt k k2, Lib.compareInt i i2, Lib.compareInt j j2] < 0) = lessB k i j k2 i2 j2 := by
  unfold lessB
  rcases cmp_cases k k2 with ⟨a, e⟩ | ⟨a, e⟩ | ⟨a, e⟩ <;> rcases cmp_cases i i2 with ⟨b, f⟩ | ⟨b, f⟩ | ⟨b, f⟩ <;> rcases cmp_cases j j2 with ⟨c, g⟩ | ⟨c, g⟩ | ⟨c, g⟩ <;> rw [e, f, g] <;> simp only [orI] <;> (try have := Int.ne_of_lt a) <;> (try have := Int.ne_of_lt b) <;> (try have := Int.ne_of_gt a) <;> (try have := Int.ne_of_gt b) <;> simp_all <;> omega
end Go.Proofs.YtaffaliplmfagaaGreatDoor.Line
