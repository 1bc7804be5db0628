/-
  The walks of package meter: what New, none, Left, Spent and Spend come to, over a meter's two blocks (its struct and its channel).
-/
import Derived.Test.YtehmlaielnhcmaaRows
import Derived.Test.YtehmlaielnhcmaaChan
import Derived.ProofKit
import Derived.OpenShut
import Derived.Handy
import Derived.Lib.Hide
import Derived.BigQuiet
import Derived.Deep.QuietTactic
import Derived.Deep.Cut
namespace Go.Proofs.Ytehmlaielnhcmaa.Meter
open Go.RowKit Go.Conc Go.Proofs.Ytehmlaielnhcmaa.Chan

def unit : Value := .agg #[]

/-- A meter stands at block b: its channel is block c, of capacity cap, n tokens spent. -/
def Mt (w : World) (b c cap n : Nat) : Prop :=
  w.cell? ⟨b, 0, .none⟩ = some (.chan (some c)) ∧ w.heap[c]? = some (.chan cap (Array.replicate n unit) false n 0 false) ∧ b < w.heap.size ∧ c < w.heap.size ∧ b ≠ c

theorem none_nil (w : World) : Calls Try.prog 11 #[.pointer none] w fun e w' => e = .returned (.bool true) ∧ w' = w := by
  go_enter Try.func11, Try.ntmps11
  go_wp2
  go_ret
  exact ⟨rfl, rfl⟩
theorem none_odd (b : Nat) (w : World) (h : w.cell? ⟨b, 0, .none⟩ = some (.chan none)) : Calls Try.prog 11 #[.pointer (some ⟨b, 0, .none⟩)] w fun e w' => e = .returned (.bool true) ∧ w' = w := by
  have he := run_eql_chan_none (P := Try.prog) w Try.underlying28
  go_enter Try.func11, Try.ntmps11
  go_wp2
  go_ret
  exact ⟨rfl, rfl⟩
theorem none_some (b c : Nat) (w : World) (h : w.cell? ⟨b, 0, .none⟩ = some (.chan (some c))) : Calls Try.prog 11 #[.pointer (some ⟨b, 0, .none⟩)] w fun e w' => e = .returned (.bool false) ∧ w' = w := by
  have he := run_eql_chan_some (P := Try.prog) w c Try.underlying28
  go_enter Try.func11, Try.ntmps11
  go_wp2
  go_ret
  exact ⟨rfl, rfl⟩

theorem near_any (n lo hi : Int) (w : World) : Calls Try.prog 7 #[.int .i64 n, .int .i64 lo, .int .i64 hi] w fun e w' => e = .returned (.int .i64 (near n lo hi)) ∧ w' = w := by
  by_cases h1 : n < lo
  · have hn := Lib.hid (near_lo (hi := hi) h1)
    go_enter Try.func7, Try.ntmps7
    go_wp2
    go_ret
    exact ⟨by rw [hn.out]; rfl, rfl⟩
  · by_cases h2 : hi < n
    · have hn := Lib.hid (near_hi h1 h2)
      go_enter Try.func7, Try.ntmps7
      go_wp2
      go_ret
      exact ⟨by rw [hn.out]; rfl, rfl⟩
    · have hn := Lib.hid (near_in h1 h2)
      go_enter Try.func7, Try.ntmps7
      go_wp2
      go_ret
      exact ⟨by rw [hn.out]; rfl, rfl⟩

theorem info_unit : ∃ i, Try.prog.info? 32 = some i ∧ i.bytes = 0 := by
  have h : (Try.prog.info? 32).map (·.bytes) = some 0 := by kernel_rfl
  obtain ⟨i, hi, hb⟩ := Option.map_eq_some_iff.1 h
  exact ⟨i, hi, hb⟩
theorem mk (w : World) (n : Int) (h0 : 0 ≤ n) (h1 : n ≤ 1048576) : (Instr.makeChan 28 (.int .i64 n)).run Try.prog w = .ok (.chan (some w.heap.size)) (w.alloc (.chan n.toNat #[] false 0 0 false)) := by
  obtain ⟨i, hi, hb⟩ := info_unit
  obtain ⟨m, rfl⟩ := Int.eq_ofNat_of_zero_le h0
  simpa using run_makeChan (P := Try.prog) (w := w) Try.underlying28 hi .i64 m (by omega) (by rw [hb]; omega)

def made (w : World) (cap : Nat) : World := (w.alloc (.chan cap #[] false 0 0 false)).alloc (.cells #[.chan (some w.heap.size)] 30)
theorem made_mt (w : World) (cap : Nat) : Mt (made w cap) (w.heap.size + 1) w.heap.size cap 0 := by
  refine ⟨?_, ?_, by simp [made], by simp [made]; omega, by omega⟩
  · simp [made]
  · unfold made
    rw [Below.heap_alloc _ _ _ (by simp)]
    exact heap_alloc_new w _
theorem made_below (w : World) (cap : Nat) : Below w.heap.size w (made w cap) := by
  unfold made; go_grown

theorem new_any (t : Int) (w : World) : Calls Try.prog 6 #[.int .i64 t] w fun e w' => e = .returned (.pointer (some ⟨w.heap.size + 1, 0, .none⟩)) ∧ w' = made w (near t 0 1048576).toNat := by
  by_cases h1 : t ≤ 0
  · have hn := Lib.hid (show near t 0 1048576 = 0 by unfold near; split <;> (try split) <;> omega)
    have hm := mk w 0 (by omega) (by omega)
    go_enter Try.func6, Try.ntmps6
    go_wp2
    go_ret
    exact ⟨by simp, by rw [hn.out]; rfl⟩
  · by_cases h2 : 1048576 < t
    · have hn := Lib.hid (near_hi (n := t) (lo := 0) (by omega) h2)
      have hm := mk w 1048576 (by omega) (by omega)
      go_enter Try.func6, Try.ntmps6
      go_wp2
      go_ret
      exact ⟨by simp, by rw [hn.out]; rfl⟩
    · have hn := Lib.hid (near_in (n := t) (lo := 0) (by omega) h2)
      have hm := mk w t (by omega) (by omega)
      go_enter Try.func6, Try.ntmps6
      go_wp2
      go_ret
      exact ⟨by simp, by rw [hn.out]; rfl⟩

theorem left_nil (w : World) : Calls Try.prog 8 #[.pointer none] w fun e w' => e = .returned (.int .i64 0) ∧ w' = w := by
  go_enter Try.func8, Try.ntmps8
  go_wp2_with (go_at_call 11; refine (none_nil _).mono ?_; rintro e w' ⟨rfl, rfl⟩)
  go_ret
  exact ⟨rfl, rfl⟩
theorem left_odd (b : Nat) (w : World) (h : w.cell? ⟨b, 0, .none⟩ = some (.chan none)) : Calls Try.prog 8 #[.pointer (some ⟨b, 0, .none⟩)] w fun e w' => e = .returned (.int .i64 0) ∧ w' = w := by
  go_enter Try.func8, Try.ntmps8
  go_wp2_with (go_at_call 11; refine (none_odd _ _ h).mono ?_; rintro e w' ⟨rfl, rfl⟩)
  go_ret
  exact ⟨rfl, rfl⟩
theorem spent_nil (w : World) : Calls Try.prog 9 #[.pointer none] w fun e w' => e = .returned (.int .i64 0) ∧ w' = w := by
  go_enter Try.func9, Try.ntmps9
  go_wp2_with (go_at_call 11; refine (none_nil _).mono ?_; rintro e w' ⟨rfl, rfl⟩)
  go_ret
  exact ⟨rfl, rfl⟩
theorem spent_odd (b : Nat) (w : World) (h : w.cell? ⟨b, 0, .none⟩ = some (.chan none)) : Calls Try.prog 9 #[.pointer (some ⟨b, 0, .none⟩)] w fun e w' => e = .returned (.int .i64 0) ∧ w' = w := by
  go_enter Try.func9, Try.ntmps9
  go_wp2_with (go_at_call 11; refine (none_odd _ _ h).mono ?_; rintro e w' ⟨rfl, rfl⟩)
  go_ret
  exact ⟨rfl, rfl⟩
theorem spend_nil (w : World) : Calls Try.prog 10 #[.pointer none] w fun e w' => e = .returned (.bool false) ∧ w' = w := by
  go_enter Try.func10, Try.ntmps10
  go_wp2_with (go_at_call 11; refine (none_nil _).mono ?_; rintro e w' ⟨rfl, rfl⟩)
  go_ret
  exact ⟨rfl, rfl⟩
theorem spend_odd (b : Nat) (w : World) (h : w.cell? ⟨b, 0, .none⟩ = some (.chan none)) : Calls Try.prog 10 #[.pointer (some ⟨b, 0, .none⟩)] w fun e w' => e = .returned (.bool false) ∧ w' = w := by
  go_enter Try.func10, Try.ntmps10
  go_wp2_with (go_at_call 11; refine (none_odd _ _ h).mono ?_; rintro e w' ⟨rfl, rfl⟩)
  go_ret
  exact ⟨rfl, rfl⟩

theorem spent_some (b c cap n : Nat) (w : World) (h : Mt w b c cap n) : Calls Try.prog 9 #[.pointer (some ⟨b, 0, .none⟩)] w fun e w' => e = .returned (.int .i64 n) ∧ w' = w := by
  obtain ⟨h1, h2, _, _, _⟩ := h
  have hlen := fun ty => run_len_chan (P := Try.prog) 28 ty Try.underlying28 h2
  go_enter Try.func9, Try.ntmps9
  go_wp2_with (go_at_call 11; refine (none_some _ _ _ h1).mono ?_; rintro e w' ⟨rfl, rfl⟩)
  go_ret
  exact ⟨by simp, rfl⟩
theorem left_some (b c cap n : Nat) (w : World) (h : Mt w b c cap n) (hc : cap ≤ 1048576) (hn : n ≤ cap) : Calls Try.prog 8 #[.pointer (some ⟨b, 0, .none⟩)] w fun e w' => e = .returned (.int .i64 (cap - n)) ∧ ∃ k, w' = w.drewN k := by
  obtain ⟨h1, h2, _, _, _⟩ := h
  have hlen := fun nq ty => run_len_chan (P := Try.prog) (w := w.drewN nq) 28 ty Try.underlying28 h2
  have hcap := fun nq ty => run_cap_chan (P := Try.prog) (w := w.drewN nq) 28 ty Try.underlying28 h2
  go_enter Try.func8, Try.ntmps8
  go_wp2_with (go_at_call 11; refine (none_some _ _ _ h1).mono ?_; rintro e w' ⟨rfl, rfl⟩)
  go_quiet (fail)
  go_wp2
  go_ret
  exact ⟨by simp, _, rfl⟩
theorem spend_room (b c cap n : Nat) (w : World) (h : Mt w b c cap n) (hn : n < cap) : Calls Try.prog 10 #[.pointer (some ⟨b, 0, .none⟩)] w fun e w' => e = .returned (.bool true) ∧ w' = w.setChan c cap ((Array.replicate n unit).push unit) false (n + 1) 0 false := by
  obtain ⟨h1, h2, _, _, _⟩ := h
  go_enter Try.func10, Try.ntmps10
  go_upto_region 5 with (go_at_call 11; refine (none_some _ _ _ h1).mono ?_; rintro e w' ⟨rfl, rfl⟩)
  refine wp_send_room (z := unit) (v := unit) rfl rfl rfl rfl rfl (by kernel_rfl) h2 (by simpa using hn) ?_
  go_wp2
  go_ret
  exact ⟨rfl, rfl⟩
theorem spend_full (b c cap : Nat) (w : World) (h : Mt w b c cap cap) : Calls Try.prog 10 #[.pointer (some ⟨b, 0, .none⟩)] w fun e w' => e = .returned (.bool false) ∧ w' = w := by
  obtain ⟨h1, h2, _, _, _⟩ := h
  go_enter Try.func10, Try.ntmps10
  go_upto_region 5 with (go_at_call 11; refine (none_some _ _ _ h1).mono ?_; rintro e w' ⟨rfl, rfl⟩)
  refine wp_send_full (z := unit) (v := unit) rfl rfl rfl rfl rfl (by kernel_rfl) h2 (by simp) ?_
  go_wp2
  go_ret
  exact ⟨rfl, rfl⟩

/-! What the laws use: the meter stands, and nothing below B has turned. -/
theorem spend_yes {B : Nat} (b c cap n : Nat) (w : World) (h : Mt w b c cap n) (hn : n < cap) (hB : B ≤ c) : Calls Try.prog 10 #[.pointer (some ⟨b, 0, .none⟩)] w fun e w' => e = .returned (.bool true) ∧ Mt w' b c cap (n + 1) ∧ Below B w w' := by
  refine (spend_room b c cap n w h hn).mono ?_
  rintro e w' ⟨rfl, rfl⟩
  obtain ⟨h1, h2, hb, hc, hne⟩ := h
  refine ⟨rfl, ⟨?_, ?_, ?_, ?_, hne⟩, below_setChan (Below.refl _ _) hB _ _ _ _ _ _⟩
  · rw [cell_setChan _ _ _ _ _ _ _ _ _ hne]; exact h1
  · rw [heap_setChan _ _ _ _ _ _ _ _ hc, Array.replicate_succ]
  · rw [size_setChan]; exact hb
  · rw [size_setChan]; exact hc
theorem left_is {B : Nat} (b c cap n : Nat) (w : World) (h : Mt w b c cap n) (hc : cap ≤ 1048576) (hn : n ≤ cap) : Calls Try.prog 8 #[.pointer (some ⟨b, 0, .none⟩)] w fun e w' => e = .returned (.int .i64 (cap - n)) ∧ Mt w' b c cap n ∧ Below B w w' := by
  refine (left_some b c cap n w h hc hn).mono ?_
  rintro e w' ⟨rfl, k, rfl⟩
  exact ⟨rfl, h, ⟨rfl, rfl, rfl, Nat.le_refl _, fun _ _ => rfl⟩⟩
theorem near_is (n lo hi r : Int) (w : World) (h : near n lo hi = r) : Calls Try.prog 7 #[.int .i64 n, .int .i64 lo, .int .i64 hi] w fun e w' => e = .returned (.int .i64 r) ∧ w' = w := by
  subst h; exact near_any n lo hi w
theorem new_is (t : Int) (cap : Nat) (w : World) (h : near t 0 1048576 = cap) : Calls Try.prog 6 #[.int .i64 t] w fun e w' => ∃ b c, e = .returned (.pointer (some ⟨b, 0, .none⟩)) ∧ Mt w' b c cap 0 ∧ w.heap.size ≤ c ∧ w.heap.size ≤ b ∧ Below w.heap.size w w' := by
  refine (new_any t w).mono ?_
  rintro e w' ⟨rfl, rfl⟩
  rw [h]
  exact ⟨_, _, rfl, made_mt w cap, Nat.le_refl _, by omega, made_below w cap⟩

theorem alive_is (w : World) : Calls Try.prog 5 #[] w fun e w' => e = .returned (.bool true) ∧ Below w.heap.size w w' := by
  go_enter Try.func5, Try.ntmps5
  go_wp2_with fail
  refine (new_is 1 1 _ (by simp [near])).mono ?_
  rintro e w1 ⟨b, c, rfl, m1, hc, hb, b1⟩
  go_wp2_with fail
  refine (spend_yes (B := w.heap.size) b c 1 0 _ m1 (by omega) hc).mono ?_
  rintro e w2 ⟨rfl, m2, b2⟩
  go_wp2_with fail
  refine (spend_full b c 1 _ m2).mono ?_
  rintro e w3 ⟨rfl, rfl⟩
  go_wp2_with fail
  refine (spent_some b c 1 1 _ m2).mono ?_
  rintro e w3 ⟨rfl, rfl⟩
  go_wp2_with fail
  refine (left_is (B := w.heap.size) b c 1 1 _ m2 (by omega) (by omega)).mono ?_
  rintro e w4 ⟨rfl, m4, b4⟩
  go_wp2_with fail
  go_ret
  exact ⟨rfl, (b1.trans b2).trans b4⟩
end Go.Proofs.Ytehmlaielnhcmaa.Meter
