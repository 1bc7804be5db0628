/-
  Package pick: numbers compared.
-/
import Derived.Test.YtaffaliplmfagaaGreatDoorGet
import Derived.BigQuiet
set_option linter.unusedVariables false
namespace Go.Proofs.YtaffaliplmfagaaGreatDoor.Pick
open Go.RowKit Go.Sort Go.Proofs.YtaffaliplmfagaaGreatDoor.Own Go.Proofs.YtaffaliplmfagaaGreatDoor.Oct

set_option maxHeartbeats 2000000 in
theorem ints_is (w : World) (v u : Value) (n m : Nat) (xs ys : List Int) (hx : Rd w 1 v n (vals xs)) (hy : Rd w 1 u m (vals ys)) :
    Calls Tryz.prog 31 #[v, u] w fun e w' => e = .returned (.bool (decide (xs = ys))) ∧ Kept No w w' := by
  obtain ⟨hl, ao, lc, rfl, hc, hm, hn, hR⟩ := hx
  obtain ⟨hl2, ao2, lc2, rfl, hc2, hm2, hn2, hR2⟩ := hy
  rw [vals_len, Nat.mul_one] at hl hl2
  unfold maxLen at hm hm2
  have HR := Lib.hid hR
  have HR2 := Lib.hid hR2
  clear hR hR2
  go_enter Tryz.func31, Tryz.ntmps31
  by_cases hnm : n = m
  · subst hnm
    have hb : ((n : Int) != (n : Int)) = false := by simp
    go_wp2_with fail
    go_loopw [5] (fun i wr => ∃ k : Nat, k ≤ n ∧ i = .int .i64 k ∧ xs.take k = ys.take k ∧ Kept No w wr) (fun i _ => n - (intOf i).toNat)
    case atStart => exact ⟨0, by omega, rfl, by simp, Kept.refl _ _⟩
    case round =>
      obtain ⟨k, hk, rfl, ht, hK⟩ := hrel
      by_cases hlt : k < n
      · obtain ⟨g, o, rfl, hg, hcell⟩ := HR.out (by omega)
        obtain ⟨g2, o2, rfl, hg2, hcell2⟩ := HR2.out (by omega)
        have c : ∀ nq, (wr.drewN nq).cell? ⟨g, o + k, none⟩ = some (.int .i64 (xs[k]'(by omega))) := fun nq => ((hK.drewN nq).cell (p := ⟨g, o + k, none⟩) hg id).trans (hcell k _ (by simp [vals]))
        have c2 : ∀ nq, (wr.drewN nq).cell? ⟨g2, o2 + k, none⟩ = some (.int .i64 (ys[k]'(by omega))) := fun nq => ((hK.drewN nq).cell (p := ⟨g2, o2 + k, none⟩) hg2 id).trans (hcell2 k _ (by simp [vals]))
        have e1 : xs.take (k + 1) = xs.take k ++ [xs[k]'(by omega)] := by simp
        have e2 : ys.take (k + 1) = ys.take k ++ [ys[k]'(by omega)] := by simp
        have e3 : xs = ys → xs[k]'(by omega) = ys[k]'(by omega) := fun e => by subst e; rfl
        generalize xs[k]'(by omega) = x at *
        generalize ys[k]'(by omega) = y at *
        clear hcell hcell2
        by_cases hxy : x = y
        · subst hxy
          have hq : (x != x) = false := by simp
          go_wp2_with fail
          go_quiet (fail)
          go_wp2_with fail
          go_roundw
          case rel => exact ⟨k + 1, by omega, by go_num, by rw [e1, e2, ht], hK.drewN _⟩
          case measure => simp [intOf]; omega
        · have hq : (x != y) = true := by simp [hxy]
          go_wp2_with fail
          go_quiet (fail)
          go_wp2_with fail
          go_ret
          have hne : xs ≠ ys := fun e => hxy (e3 e)
          exact ⟨by simp [hne], hK.drewN _⟩
      · obtain rfl : k = n := by omega
        rw [List.take_of_length_le (by omega), List.take_of_length_le (by omega)] at ht
        go_wp2_with fail
        go_ret
        exact ⟨by simp [ht], hK⟩
  · have hb : ((n : Int) != (m : Int)) = true := by simp; omega
    go_wp2_with fail
    go_ret
    have hne : xs ≠ ys := fun e => hnm (by subst e; omega)
    exact ⟨by simp [hne], Kept.refl _ _⟩

end Go.Proofs.YtaffaliplmfagaaGreatDoor.Pick
