/-
  Package set: Of; the comparison of two lists; alive.
-/
import Derived.Test.YtpggdafhpdipjaaDoorFirst
import Derived.Lib.Hide
set_option linter.unusedVariables false
namespace Go.Proofs.YtpggdafhpdipjaaDoor.Sets
open Go.RowKit Go.Proofs.YtpggdafhpdipjaaDoor.Own

def ofN (zs : List Int) : Nat := zs.foldl with_ 0
theorem with_lt {s : Nat} (h : s < 18446744073709551616) (i : Int) : with_ s i < 18446744073709551616 := by
  have := bitN_lt i
  exact Nat.or_lt_two_pow (n := 64) h this
theorem ofN_snoc (zs : List Int) (i : Int) : ofN (zs ++ [i]) = with_ (ofN zs) i := by simp [ofN]
theorem ofN_lt (zs : List Int) : ofN zs < 18446744073709551616 := by
  suffices h : ∀ (zs : List Int) s, s < 18446744073709551616 → zs.foldl with_ s < 18446744073709551616 from h zs 0 (by omega)
  intro zs
  induction zs with
  | nil => intro s h; exact h
  | cons z zs ih => intro s h; exact ih _ (with_lt h z)

theorem rd_of_owns {w : World} {base : Nat} {v : Value} {n : Nat} {xs : List Int} (h : w.ownsRow base 3 1 v n (xs.map iv)) : Rd w 1 v n (vals xs) := by
  obtain ⟨h1, h2⟩ := h
  refine ⟨h1, ?_⟩
  rcases h2 with ⟨rfl, rfl⟩ | ⟨g, cap, cur, rfl, _, hg, hn, hm, hc, ht⟩
  · exact ⟨none, 0, rfl, by omega, by simp [maxLen], fun _ => ⟨rfl, rfl⟩, fun h => by omega⟩
  · refine ⟨_, cap, rfl, hn, hm, (fun e => by cases e), fun _ => ⟨g, 0, rfl, (Array.getElem?_eq_some_iff.1 hg).1, fun j u hu => ?_⟩⟩
    rw [show vals xs = xs.map iv from rfl, ← ht] at hu
    rw [List.getElem?_take] at hu
    split at hu
    · simp only [World.cell?, hg, Nat.zero_add]
      simpa using hu
    · cases hu

set_option maxHeartbeats 2000000 in
theorem of_is (w : World) (v : Value) (n : Nat) (zs : List Int) (hr : Rd w 1 v n (vals zs)) :
    Calls Tryd.prog 7 #[v] w fun e w' => e = .returned (.int .u64 (ofN zs : Nat)) ∧ w' = w := by
  obtain ⟨hl, ao, lc, rfl, hc, hm, hn, hR⟩ := hr
  rw [vals_len, Nat.mul_one] at hl
  unfold maxLen at hm
  have HR := Lib.hid hR
  clear hR
  go_enter Tryd.func7, Tryd.ntmps7
  go_wp2_with fail
  go_loop [3, 8, 5] (fun s i _ => ∃ k : Nat, k ≤ n ∧ i = .int .i64 k ∧ s = .int .u64 (ofN (zs.take k) : Nat)) (fun _ i _ => n - (intOf i).toNat)
  case atStart => exact ⟨0, by omega, rfl, by simp [ofN]⟩
  case round =>
    obtain ⟨k, hk, rfl, rfl⟩ := hrel
    by_cases hlt : k < n
    · obtain ⟨g, o, rfl, hg, hcell⟩ := HR.out (by omega)
      have c := hcell k (.int .i64 (zs[k]'(by omega))) (by simp [vals])
      have e1 : zs.take (k + 1) = zs.take k ++ [zs[k]'(by omega)] := by simp
      generalize zs[k]'(by omega) = z at *
      clear hcell
      go_wp2_with fail
      refine (with_is _ (ofN_lt _) z _).mono ?_
      rintro e w' ⟨rfl, rfl⟩
      go_wp2_with fail
      go_round
      case rel => exact ⟨k + 1, by omega, by go_num, by rw [e1, ofN_snoc]⟩
      case measure => simp [intOf]; omega
    · obtain rfl : k = n := by omega
      go_wp2_with fail
      go_ret
      rw [List.take_of_length_le (by omega)]
      exact ⟨rfl, rfl⟩

set_option maxHeartbeats 2000000 in
theorem ints_is (w : World) (v u : Value) (n m : Nat) (xs ys : List Int) (hx : Rd w 1 v n (vals xs)) (hy : Rd w 1 u m (vals ys)) :
    Calls Tryd.prog 9 #[v, u] w fun e w' => e = .returned (.bool (decide (xs = ys))) ∧ Kept No w w' := by
  obtain ⟨hl, ao, lc, rfl, hc, hm, hn, hR⟩ := hx
  obtain ⟨hl2, ao2, lc2, rfl, hc2, hm2, hn2, hR2⟩ := hy
  rw [vals_len, Nat.mul_one] at hl hl2
  unfold maxLen at hm hm2
  have HR := Lib.hid hR
  have HR2 := Lib.hid hR2
  clear hR hR2
  go_enter Tryd.func9, Tryd.ntmps9
  by_cases hnm : n = m
  · subst hnm
    have hb : ((n : Int) != (n : Int)) = false := by simp
    go_wp2_with fail
    go_loopw [5] (fun i wr => ∃ k : Nat, k ≤ n ∧ i = .int .i64 k ∧ xs.take k = ys.take k ∧ Kept No w wr) (fun i _ => n - (intOf i).toNat)
    case atStart => exact ⟨0, by omega, rfl, by simp, Kept.refl _ _⟩
    case round =>
      obtain ⟨k, hk, rfl, ht, hK⟩ := hrel
      by_cases hlt : k < n
      · obtain ⟨g, o, rfl, hg, hcell⟩ := HR.out (by omega)
        obtain ⟨g2, o2, rfl, hg2, hcell2⟩ := HR2.out (by omega)
        have c : ∀ nq, (wr.drewN nq).cell? ⟨g, o + k, none⟩ = some (.int .i64 (xs[k]'(by omega))) := fun nq => ((hK.drewN nq).cell (p := ⟨g, o + k, none⟩) hg id).trans (hcell k _ (by simp [vals]))
        have c2 : ∀ nq, (wr.drewN nq).cell? ⟨g2, o2 + k, none⟩ = some (.int .i64 (ys[k]'(by omega))) := fun nq => ((hK.drewN nq).cell (p := ⟨g2, o2 + k, none⟩) hg2 id).trans (hcell2 k _ (by simp [vals]))
        have e1 : xs.take (k + 1) = xs.take k ++ [xs[k]'(by omega)] := by simp
        have e2 : ys.take (k + 1) = ys.take k ++ [ys[k]'(by omega)] := by simp
        have e3 : xs = ys → xs[k]'(by omega) = ys[k]'(by omega) := fun e => by subst e; rfl
        generalize xs[k]'(by omega) = x at *
        generalize ys[k]'(by omega) = y at *
        clear hcell hcell2
        by_cases hxy : x = y
        · subst hxy
          have hq : (x != x) = false := by simp
          go_wp2_with fail
          go_quiet (fail)
          go_wp2_with fail
          go_roundw
          case rel => exact ⟨k + 1, by omega, by go_num, by rw [e1, e2, ht], hK.drewN _⟩
          case measure => simp [intOf]; omega
        · have hq : (x != y) = true := by simp [hxy]
          go_wp2_with fail
          go_quiet (fail)
          go_wp2_with fail
          go_ret
          have : xs ≠ ys := fun e => hxy (e3 e)
          exact ⟨by simp [this], hK.drewN _⟩
      · obtain rfl : k = n := by omega
        rw [List.take_of_length_le (by omega), List.take_of_length_le (by omega)] at ht
        go_wp2_with fail
        go_ret
        subst ht
        exact ⟨by simp, hK⟩
  · have hb : ((n : Int) != (m : Int)) = true := by simp; omega
    go_wp2_with fail
    go_ret
    have : xs ≠ ys := fun e => hnm (by rw [← hl, ← hl2, e])
    exact ⟨by simp [this], Kept.refl _ _⟩

theorem count_is (s : Nat) (hs : s < 18446744073709551616) (w : World) :
    Calls Tryd.prog 11 #[.int .u64 s] w fun e w' => e = .returned (.int .i64 (cnt 64 s : Nat)) ∧ w' = w := by
  go_enter Tryd.func11, Tryd.ntmps11
  go_wp2_with fail
  refine (ones_is s hs _).mono ?_
  rintro e w' ⟨rfl, rfl⟩
  go_wp2_with fail
  go_ret
  exact ⟨rfl, rfl⟩
theorem ofN_ten : ofN [3, 1] = 10 := by decide
theorem has_ten : hasB 10 3 = true := by decide
theorem cnt_ten : cnt 64 10 = 2 := by decide
theorem mem_ten : (mem 10).length = 2 := by decide
theorem ctz_ten : Lib.ctz 64 10 = 1 := by decide

set_option maxHeartbeats 2000000 in
theorem alive_is (w : World) (hT : Door.Tabs w) (h0w : 0 < w.heap.size) :
    Calls Tryd.prog 6 #[] w fun e w' => e = .returned (.bool true) ∧ Kept No w w' := by
  go_enter Tryd.func6, Tryd.ntmps6
  go_wp2_with fail
  refine (first_is 10 (by omega) w hT h0w).mono ?_
  rintro e w1 ⟨x, b, hx, rfl, k1⟩
  obtain ⟨rfl, rfl⟩ : x = 1 ∧ b = true := by
    rcases hx with ⟨h, _⟩ | ⟨_, h, hb⟩
    · omega
    · rw [ctz_ten] at h; exact ⟨h, hb⟩
  have hT1 := hT.kept k1 id
  have hz1 := k1.size
  clear hx
  go_wp2_with fail
  refine (of_is _ _ 2 [3, 1] ⟨rfl, _, 2, rfl, by omega, by simp [maxLen], (fun e => by cases e), fun _ => ⟨_, 0, rfl, by simp, ?_⟩⟩).mono ?_
  · intro j u hu
    have h := cells_new w1 #[.int .i64 3, .int .i64 1] 3 j u hu
    rw [Addr.add_lit] at h
    exact h
  rintro e w2 ⟨rfl, rfl⟩
  have k2 := k1.alloc (.cells #[.int .i64 3, .int .i64 1] 3)
  have hT2 := hT.kept k2 id
  have hz2 := k2.size
  generalize w1.alloc (.cells #[.int .i64 3, .int .i64 1] 3) = w2 at *
  rw [ofN_ten]
  go_wp2_with fail
  refine (has_is 10 (by omega) 3 _).mono ?_
  rintro e w3 ⟨rfl, rfl⟩
  rw [has_ten]
  go_wp2_with fail
  refine (count_is 10 (by omega) _).mono ?_
  rintro e w3 ⟨rfl, rfl⟩
  rw [cnt_ten]
  go_wp2_with fail
  refine (list_is 10 (by omega) _ hT2 (by omega)).mono ?_
  rintro e w4 ⟨v, rfl, hr, k4⟩
  rw [mem_ten] at hr
  obtain ⟨g, cap, rfl⟩ := ownsRow_succ hr
  go_wp2_with fail
  go_ret
  exact ⟨rfl, k2.trans k4 (fun _ _ f => f)⟩

/-! ### with and without -/
theorem hasB_in {s : Nat} {i : Int} (h : 0 ≤ i ∧ i < 64) : hasB s i = s.testBit i.toNat := by
  unfold hasB bitN
  rw [if_pos h]
  cases hb : s.testBit i.toNat with
  | true =>
    rw [bne_iff_ne]
    intro e
    have h2 : (s &&& 2 ^ i.toNat).testBit i.toNat = true := by rw [Nat.testBit_and, Nat.testBit_two_pow_self, hb]; rfl
    rw [e] at h2
    simp at h2
  | false =>
    have e : s &&& 2 ^ i.toNat = 0 := by
      refine Nat.eq_of_testBit_eq fun j => ?_
      rw [Nat.testBit_and, Nat.testBit_two_pow]
      by_cases hj : i.toNat = j
      · subst hj; simp [hb]
      · simp [hj]
    rw [e]; rfl
theorem hasB_out {s : Nat} {i : Int} (h : ¬ (0 ≤ i ∧ i < 64)) : hasB s i = false := by
  unfold hasB bitN
  rw [if_neg h]
  simp
theorem tb_big {s : Nat} (h : s < 18446744073709551616) {j : Nat} (hj : 64 ≤ j) : s.testBit j = false :=
  Nat.testBit_lt_two_pow (Nat.lt_of_lt_of_le (show s < 2 ^ 64 from h) (Nat.pow_le_pow_right (by omega) hj))
theorem tb_with {s : Nat} {i : Int} (h : 0 ≤ i ∧ i < 64) (j : Nat) : (with_ s i).testBit j = (s.testBit j || decide (i.toNat = j)) := by
  unfold with_ bitN
  rw [if_pos h, Nat.testBit_or, Nat.testBit_two_pow]
theorem tb_without {s : Nat} (hs : s < 18446744073709551616) {i : Int} (h : 0 ≤ i ∧ i < 64) (j : Nat) : (without_ s i).testBit j = (s.testBit j && !decide (i.toNat = j)) := by
  unfold without_
  have hb := bitN_lt i
  rw [Nat.testBit_and, show 18446744073709551615 - bitN i = 2 ^ 64 - (bitN i + 1) by omega, Nat.testBit_two_pow_sub_succ hb]
  unfold bitN
  rw [if_pos h, Nat.testBit_two_pow]
  by_cases hj : j < 64
  · simp [hj]
  · simp [tb_big hs (by omega : 64 ≤ j)]
theorem with_out {s : Nat} {i : Int} (h : ¬ (0 ≤ i ∧ i < 64)) : with_ s i = s := by
  unfold with_ bitN; rw [if_neg h]; simp
theorem without_out {s : Nat} (hs : s < 18446744073709551616) {i : Int} (h : ¬ (0 ≤ i ∧ i < 64)) : without_ s i = s := by
  unfold without_ bitN
  rw [if_neg h]
  have := Nat.and_two_pow_sub_one_of_lt_two_pow (n := 64) (x := s) hs
  simpa using this
theorem without_lt {s : Nat} (hs : s < 18446744073709551616) (i : Int) : without_ s i < 18446744073709551616 :=
  Nat.lt_of_le_of_lt Nat.and_le_left hs
end Go.Proofs.YtpggdafhpdipjaaDoor.Sets
