/-
  Package pick: switches, schedules without some picks, with two exchanged; what the statements reckon themselves.
-/
import Derived.Test.YtgcdimfbkpbhnaaDoorGet
import Derived.Shelf.Slices.Delete
import Derived.BigQuiet
set_option linter.unusedVariables false
namespace Go.Proofs.YtgcdimfbkpbhnaaDoor.Pick
open Go.RowKit Go.Sort Go.Proofs.YtgcdimfbkpbhnaaDoor.Own Go.Proofs.YtgcdimfbkpbhnaaDoor.Oct

set_option maxHeartbeats 2000000 in
theorem ints_is (w : World) (v u : Value) (n m : Nat) (xs ys : List Int) (hx : Rd w 1 v n (vals xs)) (hy : Rd w 1 u m (vals ys)) :
    Calls Tryd.prog 14 #[v, u] w fun e w' => e = .returned (.bool (decide (xs = ys))) ∧ Kept No w w' := by
  obtain ⟨hl, ao, lc, rfl, hc, hm, hn, hR⟩ := hx
  obtain ⟨hl2, ao2, lc2, rfl, hc2, hm2, hn2, hR2⟩ := hy
  rw [vals_len, Nat.mul_one] at hl hl2
  unfold maxLen at hm hm2
  have HR := Lib.hid hR
  have HR2 := Lib.hid hR2
  clear hR hR2
  go_enter Tryd.func14, Tryd.ntmps14
  by_cases hnm : n = m
  · subst hnm
    have hb : ((n : Int) != (n : Int)) = false := by simp
    go_wp2_with fail
    go_loopw [5] (fun i wr => ∃ k : Nat, k ≤ n ∧ i = .int .i64 k ∧ xs.take k = ys.take k ∧ Kept No w wr) (fun i _ => n - (intOf i).toNat)
    case atStart => exact ⟨0, by omega, rfl, by simp, Kept.refl _ _⟩
    case round =>
      obtain ⟨k, hk, rfl, ht, hK⟩ := hrel
      by_cases hlt : k < n
      · obtain ⟨g, o, rfl, hg, hcell⟩ := HR.out (by omega)
        obtain ⟨g2, o2, rfl, hg2, hcell2⟩ := HR2.out (by omega)
        have c : ∀ nq, (wr.drewN nq).cell? ⟨g, o + k, none⟩ = some (.int .i64 (xs[k]'(by omega))) := fun nq => ((hK.drewN nq).cell (p := ⟨g, o + k, none⟩) hg id).trans (hcell k _ (by simp [vals]))
        have c2 : ∀ nq, (wr.drewN nq).cell? ⟨g2, o2 + k, none⟩ = some (.int .i64 (ys[k]'(by omega))) := fun nq => ((hK.drewN nq).cell (p := ⟨g2, o2 + k, none⟩) hg2 id).trans (hcell2 k _ (by simp [vals]))
        have e1 : xs.take (k + 1) = xs.take k ++ [xs[k]'(by omega)] := by simp
        have e2 : ys.take (k + 1) = ys.take k ++ [ys[k]'(by omega)] := by simp
        have e3 : xs = ys → xs[k]'(by omega) = ys[k]'(by omega) := fun e => by subst e; rfl
        generalize xs[k]'(by omega) = x at *
        generalize ys[k]'(by omega) = y at *
        clear hcell hcell2
        by_cases hxy : x = y
        · subst hxy
          have hq : (x != x) = false := by simp
          go_wp2_with fail
          go_quiet (fail)
          go_wp2_with fail
          go_roundw
          case rel => exact ⟨k + 1, by omega, by go_num, by rw [e1, e2, ht], hK.drewN _⟩
          case measure => simp [intOf]; omega
        · have hq : (x != y) = true := by simp [hxy]
          go_wp2_with fail
          go_quiet (fail)
          go_wp2_with fail
          go_ret
          have hne : xs ≠ ys := fun e => hxy (e3 e)
          exact ⟨by simp [hne], hK.drewN _⟩
      · obtain rfl : k = n := by omega
        rw [List.take_of_length_le (by omega), List.take_of_length_le (by omega)] at ht
        go_wp2_with fail
        go_ret
        exact ⟨by simp [ht], hK⟩
  · have hb : ((n : Int) != (m : Int)) = true := by simp; omega
    go_wp2_with fail
    go_ret
    have hne : xs ≠ ys := fun e => hnm (by subst e; omega)
    exact ⟨by simp [hne], Kept.refl _ _⟩

theorem few_is (w : World) (v : Value) (n : Nat) (zs : List Int) (h : Rd w 1 v n (vals zs)) :
    Calls Tryd.prog 10 #[v] w fun e w' => (∃ u m, e = .returned u ∧ m ≤ 80 ∧ Rd w 1 u m (vals (zs.take 80))) ∧ w' = w := by
  obtain ⟨hl, ao, lc, rfl, hc, hm, hn, hR⟩ := h
  rw [vals_len, Nat.mul_one] at hl
  go_enter Tryd.func10, Tryd.ntmps10
  by_cases h80 : 80 < n
  · obtain ⟨g, o, rfl, hg, hcell⟩ := hR (by omega)
    have HC := Lib.hid hcell
    clear hcell hR hn
    unfold maxLen at hm
    go_wp2_with fail
    go_ret
    refine ⟨⟨_, 80, rfl, by omega, by simp [vals]; omega, _, _, rfl, by omega, by unfold maxLen; omega, (fun e => by cases e), fun _ => ⟨g, o, rfl, hg, fun j u hu => HC.out j u ?_⟩⟩, rfl⟩
    rw [show vals (zs.take 80) = (vals zs).take 80 by simp [vals], List.getElem?_take] at hu
    split at hu
    · exact hu
    · cases hu
  · have HR := Lib.hid hR
    have HN := Lib.hid hn
    clear hR hn
    unfold maxLen at hm
    go_wp2_with fail
    go_ret
    exact ⟨⟨_, n, rfl, by omega, by rw [List.take_of_length_le (by omega), vals_len]; omega, _, _, rfl, hc, by unfold maxLen; omega, HN.out, by rw [List.take_of_length_le (by omega)]; exact HR.out⟩, rfl⟩

/-! ### switches -/
/-- How many of the first k places differ from the one ahead. -/
def swK (zs : List Int) : Nat → Nat
  | 0 => 0
  | k + 1 => swK zs k + if 0 < k ∧ zs.getD k 0 ≠ zs.getD (k - 1) 0 then 1 else 0
theorem swK_le (zs : List Int) : ∀ k, swK zs k ≤ k
  | 0 => by simp [swK]
  | k + 1 => by
    have := swK_le zs k
    unfold swK
    split <;> omega

set_option maxHeartbeats 2000000 in
theorem switches_is (w : World) (v : Value) (n : Nat) (zs : List Int) (h : Rd w 1 v n (vals zs)) :
    Calls Tryd.prog 15 #[v] w fun e w' => e = .returned (.int .i64 (swK zs n : Nat)) ∧ Kept No w w' := by
  obtain ⟨hl, ao, lc, rfl, hc, hm, hn, hR⟩ := h
  rw [vals_len, Nat.mul_one] at hl
  unfold maxLen at hm
  have HR := Lib.hid hR
  clear hR hn
  go_enter Tryd.func15, Tryd.ntmps15
  go_wp2_with fail
  go_loopw [3, 7] (fun c i wr => ∃ k : Nat, k ≤ n ∧ i = .int .i64 k ∧ c = .int .i64 (swK zs k : Nat) ∧ Kept No w wr) (fun _ i _ => n - (intOf i).toNat)
  case atStart => exact ⟨0, by omega, rfl, rfl, Kept.refl _ _⟩
  case round =>
    obtain ⟨k, hk, rfl, rfl, hK⟩ := hrel
    have hswb := swK_le zs k
    by_cases hlt : k < n
    · by_cases hk0 : k = 0
      · have hst : swK zs (k + 1) = swK zs k := by rw [swK.eq_2, if_neg (by omega), Nat.add_zero]
        have Hst := Lib.hid hst
        have Hk0 := Lib.hid hk0
        clear hst hk0
        generalize swK zs k = q at *
        go_wp2_with fail
        have hb : decide (0 < k) = false := by rw [Hk0.out]; rfl
        go_quiet (fail)
        clear hb
        go_wp2_with fail
        go_roundw
        case rel => exact ⟨k + 1, by omega, by go_num, by rw [Hst.out], hK.drewN _⟩
        case measure => simp [intOf]; omega
      · obtain ⟨g, o, rfl, hg, hcell⟩ := HR.out (by omega)
        obtain ⟨p, rfl⟩ : ∃ p, k = p + 1 := ⟨k - 1, by omega⟩
        have c : ∀ nq, (wr.drewN nq).cell? ⟨g, o + (p + 1), none⟩ = some (.int .i64 (zs[p + 1]'(by omega))) := fun nq => ((hK.drewN nq).cell (p := ⟨g, o + (p + 1), none⟩) hg id).trans (hcell (p + 1) _ (by simp [vals]))
        have c2 : ∀ nq, (wr.drewN nq).cell? ⟨g, o + p, none⟩ = some (.int .i64 (zs[p]'(by omega))) := fun nq => ((hK.drewN nq).cell (p := ⟨g, o + p, none⟩) hg id).trans (hcell p _ (by simp [vals]))
        have hst : swK zs (p + 1 + 1) = swK zs (p + 1) + if zs[p + 1]'(by omega) ≠ zs[p]'(by omega) then 1 else 0 := by
          rw [swK.eq_2 zs (p + 1)]
          simp [List.getD, show p + 1 < zs.length by omega, show p < zs.length by omega]
        have e1 : IntKind.i64.wrap (((p : Int) + 1) - 1) = (p : Int) := by rw [IntKind.wrap_i64]; omega
        generalize zs[p + 1]'(by omega) = x at *
        generalize zs[p]'(by omega) = y at *
        have Hst := Lib.hid hst
        clear hcell hst
        have hpos : decide ((0 : Int) < (p : Int) + 1) = true := by simp <;> omega
        generalize swK zs (p + 1) = q at *
        by_cases hxy : x = y
        · subst hxy
          have hq : (x != x) = false := by simp
          go_wp2_with fail
          go_quiet (fail)
          go_wp2_with fail
          go_roundw
          case rel => exact ⟨p + 1 + 1, by omega, by go_num, by rw [Hst.out]; simp, hK.drewN _⟩
          case measure => simp [intOf]; omega
        · have hq : (x != y) = true := by simp [hxy]
          go_wp2_with fail
          go_quiet (fail)
          go_wp2_with fail
          go_roundw
          case rel => exact ⟨p + 1 + 1, by omega, by go_num, by rw [Hst.out, if_pos hxy]; go_num, hK.drewN _⟩
          case measure => simp [intOf]; omega
    · obtain rfl : k = n := by omega
      go_wp2_with fail
      go_ret
      exact ⟨rfl, hK⟩

/-! ### without, swap -/
theorem clone_is (w : World) (v : Value) (n : Nat) (zs : List Int) (h : Rd w 1 v n (vals zs)) (hlim : n ≤ 1000000) :
    Calls Tryd.prog 28 #[v] w fun e w' => (∃ u, e = .returned u ∧ Seg w' w.heap.size 3 1 u n (vals zs)) ∧ Kept No w w' := by
  obtain ⟨hl, ao, lc, rfl, hc, hm, hn, hR⟩ := h
  rw [vals_len, Nat.mul_one] at hl
  cases ao with
  | none =>
    obtain ⟨rfl, rfl⟩ := hn rfl
    obtain rfl : zs = [] := List.eq_nil_of_length_eq_zero hl
    refine (Tryd.slices_Clone_int_nil 0 0 w).mono ?_
    rintro e w' ⟨rfl, rfl⟩
    exact ⟨⟨_, rfl, Seg.nil _ _ _ _⟩, Kept.refl _ _⟩
  | some a =>
    by_cases h0 : n = 0
    · subst h0
      obtain rfl : zs = [] := List.eq_nil_of_length_eq_zero hl
      refine (Tryd.slices_Clone_int_zero a lc w).mono ?_
      rintro e w' ⟨u, rfl, ho, _, hb⟩
      exact ⟨⟨_, rfl, Seg.of_owns ho⟩, Kept.of_below hb (fun k h1 h2 => by omega)⟩
    · obtain ⟨g, o, e1, hg, hcell⟩ := hR (by omega)
      cases e1
      refine (Tryd.slices_Clone_int g o n lc zs w (by omega) (by omega) (fun j hj => hcell j _ (by simp [vals, hj]))).mono ?_
      rintro e w' ⟨u, rfl, ho, _, hb⟩
      rw [List.take_of_length_le (by omega)] at ho
      exact ⟨⟨_, rfl, Seg.of_owns ho⟩, Kept.of_below hb (fun k h1 h2 => by omega)⟩

theorem kept_putRow {α : Type} [Inhabited α] {S : Nat → Prop} {w w' : World} (h : Kept S w w') (en : α → Value) (q blk off : Nat) (d : Array α) (hb : blk < w.heap.size → S blk) : Kept S w (putRow en (Sort.ahead w' q) blk off d) :=
  h.trans (T := Only blk) ⟨rfl, rfl, rfl, by simp [Sort.ahead], fun k hk hn => by
    simp only [putRow, mapBlock, Sort.ahead, Array.getElem?_modify]
    rw [if_neg (fun e => hn e.symm)]⟩ (fun k hk e => by rw [Only] at e; subst e; exact hb hk)

def withoutL (zs : List Int) (i n : Int) : List Int := if 1 ≤ n ∧ 0 ≤ i ∧ i < zs.length then zs.take i.toNat ++ zs.drop (i.toNat + min n.toNat (zs.length - i.toNat)) else zs

theorem seg_holds {w : World} {B g o n cap : Nat} {zs : List Int} (h : Seg w B 3 1 (.slice (some ⟨g, o, none⟩) n cap) n (vals zs)) (h0 : 0 < n) : Holds (Value.int .i64) w g o zs.toArray ∧ B ≤ g ∧ g < w.heap.size ∧ n ≤ cap ∧ cap ≤ maxLen := by
  have hl := h.1
  rw [vals_len, Nat.mul_one] at hl
  rcases h.2 with ⟨h1, _⟩ | ⟨g', o', cap', cur, h1, hB, hg, hn, hm, hs, hx⟩
  · cases h1
  · cases h1
    refine ⟨fun j hj => ?_, hB, hg.lt, hn, hm⟩
    have hj' : j < n := by simpa [hl] using hj
    rw [hg.cell, hx j (by omega)]
    refine ⟨by simp [vals, show j < zs.length by omega], hg.frozen _ (by omega)⟩

def swapL (zs : List Int) (i : Int) : List Int := if 0 ≤ i ∧ i < (zs.length : Int) - 1 then (zs.set i.toNat (zs.getD (i.toNat + 1) 0)).set (i.toNat + 1) (zs.getD i.toNat 0) else zs

set_option maxHeartbeats 2000000 in
theorem swap_is (w : World) (v : Value) (n : Nat) (zs : List Int) (i : Int) (hi : -9223372036854775808 ≤ i ∧ i ≤ 9223372036854775807) (h : Rd w 1 v n (vals zs)) (hlim : n ≤ 100000) :
    Calls Tryd.prog 17 #[v, .int .i64 i] w fun e w' => (∃ u, e = .returned u ∧ Rd w' 1 u (swapL zs i).length (vals (swapL zs i))) ∧ Kept No w w' := by
  obtain ⟨hi0, hi1⟩ := hi
  have hl := h.1
  rw [vals_len, Nat.mul_one] at hl
  obtain ⟨a, c, rfl⟩ : ∃ a c, v = .slice a n c := by obtain ⟨_, a, c, h, _⟩ := h; exact ⟨a, c, h⟩
  go_enter Tryd.func17, Tryd.ntmps17
  go_wp2_with fail
  refine (clone_is w _ n zs h (by omega)).mono ?_
  rintro e w1 ⟨⟨u, rfl, hs⟩, k1⟩
  by_cases hin : 0 ≤ i ∧ i < (n : Int) - 1
  · obtain ⟨g2, g3⟩ := hin
    obtain ⟨j, rfl⟩ : ∃ j : Nat, i = j := ⟨i.toNat, by omega⟩
    have d1 : decide ((0 : Int) ≤ (j : Int) ∧ (j : Int) ≤ (n : Int) - 2) = true := by simp; omega
    have d2 : decide ((j : Int) ≤ (n : Int) - 2) = true := by simp; omega
    obtain ⟨ao, cp, rfl⟩ : ∃ a c, u = .slice a n c := by obtain ⟨_, a, c, h, _⟩ := hs.rd; exact ⟨a, c, h⟩
    obtain ⟨g, o, rfl⟩ : ∃ g o, ao = some ⟨g, o, none⟩ := by obtain ⟨_, a, c, h, _, _, _, hh⟩ := hs.rd; cases h; obtain ⟨g, o, e, _⟩ := hh (by omega); exact ⟨g, o, e⟩
    obtain ⟨hH, hB, hlt, hnc, hcm⟩ := seg_holds hs (by omega)
    unfold maxLen at hcm
    have c0 := (hH j (by simp; omega)).1
    have c1 := (hH (j + 1) (by simp; omega)).1
    have f0 := (hH j (by simp; omega)).2
    have f1 := (hH (j + 1) (by simp; omega)).2
    have e1 : IntKind.i64.wrap ((j : Int) + 1) = (j : Int) + 1 := by rw [IntKind.wrap_i64]; omega
    have e2 : ((j : Int) + 1).toNat = j + 1 := by omega
    have hsw : swapL zs j = (zs.set j (zs.toArray[j + 1]!)).set (j + 1) (zs.toArray[j]!) := by
      rw [swapL, if_pos ⟨g2, by omega⟩]
      simp [Array.getElem!_eq_getD, List.getD]
    have Hsw := Lib.hid hsw
    clear hsw
    have Hs := Lib.hid hs
    generalize zs.toArray[j]! = y at *
    generalize zs.toArray[j + 1]! = x at *
    clear hH hs
    go_wp2_with (first
      | (go_at_call 18; refine (in_is _ _ _ _).mono ?_; rintro e w1 ⟨rfl, rfl⟩))
    go_region
    go_wp2_with fail
    go_ret
    refine ⟨⟨_, rfl, ?_⟩, ((k1.setCell (p := ⟨g, o + j, none⟩) (fun h => by simp only at h; omega) _).setCell (p := ⟨g, o + (j + 1), none⟩) (fun h => by simp only at h; omega) _).drew⟩
    have h2 := ((Hs.out.set j (.int .i64 x)).set (j + 1) (.int .i64 y)).drew.rd
    rw [Hsw.out]
    have hl3 : ((zs.set j x).set (j + 1) y).length = n := by simp [hl]
    rw [hl3]
    simpa [vals] using h2
  · have hno : swapL zs i = zs := by rw [swapL, if_neg (by rw [hl]; exact hin)]
    have Hno := Lib.hid hno
    have Hs := Lib.hid hs
    obtain ⟨ao, cp, rfl⟩ : ∃ a c, u = .slice a n c := by obtain ⟨_, a, c, h, _⟩ := hs.rd; exact ⟨a, c, h⟩
    clear hno hs
    have d1 : decide ((0 : Int) ≤ i ∧ i ≤ (n : Int) - 2) = false := by simp; omega
    clear hin
    go_wp2_with (first
      | (go_at_call 18; refine (in_is _ _ _ _).mono ?_; rintro e w1 ⟨rfl, rfl⟩))
    all_goals
      go_ret
      rw [Hno.out, hl]
      exact ⟨⟨_, rfl, Hs.out.rd⟩, k1⟩

set_option maxHeartbeats 2000000 in
theorem without_is (w : World) (v : Value) (n : Nat) (zs : List Int) (i m : Int) (hi : -9223372036854775808 ≤ i ∧ i ≤ 9223372036854775807) (hm : -9223372036854775808 ≤ m ∧ m ≤ 9223372036854775807) (h : Rd w 1 v n (vals zs)) (hlim : n ≤ 100000) :
    Calls Tryd.prog 16 #[v, .int .i64 i, .int .i64 m] w fun e w' => (∃ u, e = .returned u ∧ Rd w' 1 u (withoutL zs i m).length (vals (withoutL zs i m))) ∧ Kept No w w' := by
  obtain ⟨hi0, hi1⟩ := hi
  obtain ⟨hm0, hm1⟩ := hm
  have hl := h.1
  rw [vals_len, Nat.mul_one] at hl
  obtain ⟨a, c, rfl⟩ : ∃ a c, v = .slice a n c := by obtain ⟨_, a, c, h, _⟩ := h; exact ⟨a, c, h⟩
  go_enter Tryd.func16, Tryd.ntmps16
  go_wp2_with fail
  refine (clone_is w _ n zs h (by omega)).mono ?_
  rintro e w1 ⟨⟨u, rfl, hs⟩, k1⟩
  by_cases hin : 1 ≤ m ∧ 0 ≤ i ∧ i < n
  · obtain ⟨g1, g2, g3⟩ := hin
    obtain ⟨j, rfl⟩ : ∃ j : Nat, i = j := ⟨i.toNat, by omega⟩
    have d1 : decide ((0 : Int) ≤ (j : Int) ∧ (j : Int) ≤ (n : Int) - 1) = true := by simp; omega
    obtain ⟨ao, cp, rfl⟩ : ∃ a c, u = .slice a n c := by obtain ⟨_, a, c, h, _⟩ := hs.rd; exact ⟨a, c, h⟩
    obtain ⟨g, o, rfl⟩ : ∃ g o, ao = some ⟨g, o, none⟩ := by obtain ⟨_, a, c, h, _, _, _, hh⟩ := hs.rd; cases h; obtain ⟨g, o, e, _⟩ := hh (by omega); exact ⟨g, o, e⟩
    obtain ⟨hH, hB, hlt, hnc, hcm⟩ := seg_holds hs (by omega)
    unfold maxLen at hcm
    have HH := Lib.hid hH
    clear hH hs
    obtain ⟨q, hq, hq2⟩ : ∃ q : Nat, (q : Int) = (j : Int) + min m ((n : Int) - (j : Int)) ∧ q = j + min m.toNat (n - j) := ⟨j + min m.toNat (n - j), by omega, rfl⟩
    have Hq := Lib.hid hq
    have Hq2 := Lib.hid hq2
    have hq3 : j ≤ q ∧ q ≤ n := by omega
    clear hq hq2
    have d2 : decide ((j : Int) ≤ (n : Int) - 1) = true := by simp; omega
    go_wp2_with (first
      | (go_at_call 18; refine (in_is _ _ _ _).mono ?_; rintro e w1 ⟨rfl, rfl⟩))
    rw [← Hq.out]
    clear d1 d2
    subst hl
    refine (Tryd.slices_Delete_int g o cp j q zs w1 HH.out hnc hcm hq3.1 hq3.2).mono ?_
    rintro e w2 ⟨rfl, qq, rfl⟩
    have hz : withoutL zs j m = zs.take j ++ zs.drop q := by
      rw [withoutL, if_pos ⟨g1, by omega, g3⟩, Hq2.out]
      simp
    have hsz : (zs.take j ++ zs.drop q ++ List.replicate (q - j) (0 : Int)).toArray.size = zs.toArray.size := by
      simp; omega
    have hln : (zs.take j ++ zs.drop q).length = zs.length - (q - j) := by simp; omega
    have hp := holds_putRow (Value.int .i64) (Sort.ahead w1 qq) g o zs.toArray (zs.take j ++ zs.drop q ++ List.replicate (q - j) (0 : Int)).toArray HH.out hsz
    have hk2 := kept_putRow (S := No) k1 (Value.int .i64) qq g o (zs.take j ++ zs.drop q ++ List.replicate (q - j) (0 : Int)).toArray (fun h => by omega)
    have Hz := Lib.hid hz
    have Hp := Lib.hid hp
    have Hl := Lib.hid hln
    clear hz hp hsz hln
    have hlt2 : g < (putRow (Value.int .i64) (Sort.ahead w1 qq) g o (zs.take j ++ zs.drop q ++ List.replicate (q - j) (0 : Int)).toArray).heap.size := by simpa [Sort.ahead] using hlt
    generalize putRow (Value.int .i64) (Sort.ahead w1 qq) g o (zs.take j ++ zs.drop q ++ List.replicate (q - j) (0 : Int)).toArray = w2 at *
    go_wp2_with fail
    go_ret
    rw [Hz.out]
    refine ⟨⟨_, rfl, by rw [vals_len, Nat.mul_one], _, cp, by rw [Hl.out]; rfl, by rw [Hl.out]; omega, by unfold maxLen; omega, (fun e => by cases e), fun _ => ⟨g, o, rfl, hlt2, fun y u hu => ?_⟩⟩, hk2⟩
    have hy : y < (zs.take j ++ zs.drop q).length := by have := (List.getElem?_eq_some_iff.1 hu).1; rwa [vals_len] at this
    have h3 := (Hp.out y (by simp at hy ⊢; omega)).1
    rw [h3, ← hu]
    have h4 : (zs.take j ++ zs.drop q ++ List.replicate (q - j) (0 : Int))[y]? = (zs.take j ++ zs.drop q)[y]? := List.getElem?_append_left hy
    simp only [vals, List.getElem?_map]
    rw [List.getElem?_eq_getElem hy] at h4 ⊢
    simp [Array.getElem!_eq_getD]
    rw [← List.append_assoc, h4]
    rfl
  · have hno : withoutL zs i m = zs := by rw [withoutL, if_neg (by rw [hl]; exact hin)]
    have Hno := Lib.hid hno
    have Hs := Lib.hid hs
    obtain ⟨ao, cp, rfl⟩ : ∃ a c, u = .slice a n c := by obtain ⟨_, a, c, h, _⟩ := hs.rd; exact ⟨a, c, h⟩
    clear hno hs
    by_cases hm1 : m < 1
    · clear hin
      go_wp2_with fail
      go_ret
      rw [Hno.out, hl]
      exact ⟨⟨_, rfl, Hs.out.rd⟩, k1⟩
    · have d1 : decide ((0 : Int) ≤ i ∧ i ≤ (n : Int) - 1) = false := by simp; omega
      clear hin
      go_wp2_with (first
        | (go_at_call 18; refine (in_is _ _ _ _).mono ?_; rintro e w1 ⟨rfl, rfl⟩))
      all_goals
        go_ret
        rw [Hno.out, hl]
        exact ⟨⟨_, rfl, Hs.out.rd⟩, k1⟩
end Go.Proofs.YtgcdimfbkpbhnaaDoor.Pick
