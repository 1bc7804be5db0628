/-
  The walks of package pipe, the exported calls: over nil, over a pipe that New did not make, and over one that it made.
-/
import Derived.Test.YtelpplfjcoeghaaPipe
namespace Go.Proofs.Ytelpplfjcoeghaa.Pipe
open Go.RowKit Go.Conc Go.Proofs.Ytelpplfjcoeghaa.Chan Go.Proofs.Ytelpplfjcoeghaa.Own

theorem Pt.kept {S : Nat → Prop} {w w' : World} {b c cap : Nat} {xs : List Int} (h : Pt w b c cap xs) (hk : Kept S w w') (hb : ¬ S b) (hc : ¬ S c) : Pt w' b c cap xs :=
  ⟨(hk.cell (p := ⟨b, 0, .none⟩) h.2.2.1 hb).trans h.1, h.2.1.kept hk hc, Nat.lt_of_lt_of_le h.2.2.1 hk.size, h.2.2.2⟩
theorem Pt.next {w w' : World} {b c cap : Nat} {xs ys : List Int} (h : Pt w b c cap xs) (hk : Kept (Only c) w w') (hc : Ch w' c cap ys) : Pt w' b c cap ys :=
  ⟨(hk.cell (p := ⟨b, 0, .none⟩) h.2.2.1 h.2.2.2).trans h.1, hc, Nat.lt_of_lt_of_le h.2.2.1 hk.size, h.2.2.2⟩

theorem near_any (n lo hi : Int) (w : World) : Calls Try.prog 8 #[.int .i64 n, .int .i64 lo, .int .i64 hi] w fun e w' => e = .returned (.int .i64 (near n lo hi)) ∧ w' = w := by
  by_cases h1 : n < lo
  · have hn := Lib.hid (near_lo (hi := hi) h1)
    go_enter Try.func8, Try.ntmps8
    go_wp2
    go_ret
    exact ⟨by rw [hn.out]; rfl, rfl⟩
  · by_cases h2 : hi < n
    · have hn := Lib.hid (near_hi h1 h2)
      go_enter Try.func8, Try.ntmps8
      go_wp2
      go_ret
      exact ⟨by rw [hn.out]; rfl, rfl⟩
    · have hn := Lib.hid (near_in h1 h2)
      go_enter Try.func8, Try.ntmps8
      go_wp2
      go_ret
      exact ⟨by rw [hn.out]; rfl, rfl⟩
theorem near_is (n lo hi r : Int) (w : World) (h : near n lo hi = r) : Calls Try.prog 8 #[.int .i64 n, .int .i64 lo, .int .i64 hi] w fun e w' => e = .returned (.int .i64 r) ∧ w' = w := by
  subst h; exact near_any n lo hi w

theorem info_el : ∃ i, Try.prog.info? 3 = some i ∧ i.bytes = 8 := by
  have h : (Try.prog.info? 3).map (·.bytes) = some 8 := by kernel_rfl
  obtain ⟨i, hi, hb⟩ := Option.map_eq_some_iff.1 h
  exact ⟨i, hi, hb⟩
theorem mk (w : World) (n : Int) (h0 : 0 ≤ n) (h1 : n ≤ 256) : (Instr.makeChan 36 (.int .i64 n)).run Try.prog w = .ok (.chan (some w.heap.size)) (w.alloc (.chan n.toNat #[] false 0 0 false)) := by
  obtain ⟨i, hi, hb⟩ := info_el
  obtain ⟨m, rfl⟩ := Int.eq_ofNat_of_zero_le h0
  simpa using run_makeChan (P := Try.prog) (w := w) Try.underlying36 hi .i64 m (by omega) (by rw [hb]; omega)
def made (w : World) (cap : Nat) : World := (w.alloc (.chan cap #[] false 0 0 false)).alloc (.cells #[.chan (some w.heap.size)] 40)
theorem made_pt (w : World) (cap : Nat) : Pt (made w cap) (w.heap.size + 1) w.heap.size cap [] := by
  refine ⟨by simp [made], ⟨0, 0, ?_⟩, by simp [made], by omega⟩
  unfold made
  rw [Below.heap_alloc _ _ _ (by simp)]
  exact heap_alloc_new w _
theorem made_kept (w : World) (cap : Nat) : Kept No w (made w cap) := ((Kept.refl No w).alloc _).alloc _

theorem new_any (t : Int) (w : World) : Calls Try.prog 7 #[.int .i64 t] w fun e w' => e = .returned (.pointer (some ⟨w.heap.size + 1, 0, .none⟩)) ∧ w' = made w (near t 0 256).toNat := by
  by_cases h1 : t ≤ 0
  · have hn := Lib.hid (show near t 0 256 = 0 by unfold near; split <;> (try split) <;> omega)
    have hm := mk w 0 (by omega) (by omega)
    go_enter Try.func7, Try.ntmps7
    go_wp2
    go_ret
    exact ⟨by simp, by rw [hn.out]; rfl⟩
  · by_cases h2 : 256 < t
    · have hn := Lib.hid (near_hi (n := t) (lo := 0) (by omega) h2)
      have hm := mk w 256 (by omega) (by omega)
      go_enter Try.func7, Try.ntmps7
      go_wp2
      go_ret
      exact ⟨by simp, by rw [hn.out]; rfl⟩
    · have hn := Lib.hid (near_in (n := t) (lo := 0) (by omega) h2)
      have hm := mk w t (by omega) (by omega)
      go_enter Try.func7, Try.ntmps7
      go_wp2
      go_ret
      exact ⟨by simp, by rw [hn.out]; rfl⟩
theorem new_is (t : Int) (cap : Nat) (w : World) (h : near t 0 256 = cap) : Calls Try.prog 7 #[.int .i64 t] w fun e w' => ∃ b c, e = .returned (.pointer (some ⟨b, 0, .none⟩)) ∧ Pt w' b c cap [] ∧ w.heap.size ≤ c ∧ w.heap.size ≤ b ∧ Kept No w w' := by
  refine (new_any t w).mono ?_
  rintro e w' ⟨rfl, rfl⟩
  rw [h]
  exact ⟨_, _, rfl, made_pt w cap, Nat.le_refl _, by omega, made_kept w cap⟩

/-! ### over nil, and over one that New did not make -/
theorem put_nil (n : Int) (w : World) : Calls Try.prog 13 #[.pointer none, .int .i64 n] w fun e w' => e = .returned (.bool false) ∧ w' = w := by
  go_enter Try.func13, Try.ntmps13
  go_wp2_with (go_at_call 18; refine (none_nil _).mono ?_; rintro e w' ⟨rfl, rfl⟩)
  go_ret
  exact ⟨rfl, rfl⟩
theorem put_odd (b : Nat) (n : Int) (w : World) (h : w.cell? ⟨b, 0, .none⟩ = some (.chan none)) : Calls Try.prog 13 #[.pointer (some ⟨b, 0, .none⟩), .int .i64 n] w fun e w' => e = .returned (.bool false) ∧ w' = w := by
  go_enter Try.func13, Try.ntmps13
  go_wp2_with (go_at_call 18; refine (none_odd _ _ h).mono ?_; rintro e w' ⟨rfl, rfl⟩)
  go_ret
  exact ⟨rfl, rfl⟩
theorem take_nil (w : World) : Calls Try.prog 12 #[.pointer none] w fun e w' => e = .returned (.tuple #[.int .i64 0, .bool false]) ∧ w' = w := by
  go_enter Try.func12, Try.ntmps12
  go_wp2_with (go_at_call 18; refine (none_nil _).mono ?_; rintro e w' ⟨rfl, rfl⟩)
  go_ret2
  exact ⟨rfl, rfl⟩
theorem take_odd (b : Nat) (w : World) (h : w.cell? ⟨b, 0, .none⟩ = some (.chan none)) : Calls Try.prog 12 #[.pointer (some ⟨b, 0, .none⟩)] w fun e w' => e = .returned (.tuple #[.int .i64 0, .bool false]) ∧ w' = w := by
  go_enter Try.func12, Try.ntmps12
  go_wp2_with (go_at_call 18; refine (none_odd _ _ h).mono ?_; rintro e w' ⟨rfl, rfl⟩)
  go_ret2
  exact ⟨rfl, rfl⟩
theorem len_nil (w : World) : Calls Try.prog 14 #[.pointer none] w fun e w' => e = .returned (.int .i64 0) ∧ w' = w := by
  go_enter Try.func14, Try.ntmps14
  go_wp2_with (go_at_call 18; refine (none_nil _).mono ?_; rintro e w' ⟨rfl, rfl⟩)
  go_ret
  exact ⟨rfl, rfl⟩
theorem len_odd (b : Nat) (w : World) (h : w.cell? ⟨b, 0, .none⟩ = some (.chan none)) : Calls Try.prog 14 #[.pointer (some ⟨b, 0, .none⟩)] w fun e w' => e = .returned (.int .i64 0) ∧ w' = w := by
  go_enter Try.func14, Try.ntmps14
  go_wp2_with (go_at_call 18; refine (none_odd _ _ h).mono ?_; rintro e w' ⟨rfl, rfl⟩)
  go_ret
  exact ⟨rfl, rfl⟩
theorem room_nil (w : World) : Calls Try.prog 15 #[.pointer none] w fun e w' => e = .returned (.int .i64 0) ∧ w' = w := by
  go_enter Try.func15, Try.ntmps15
  go_wp2_with (go_at_call 18; refine (none_nil _).mono ?_; rintro e w' ⟨rfl, rfl⟩)
  go_ret
  exact ⟨rfl, rfl⟩
theorem room_odd (b : Nat) (w : World) (h : w.cell? ⟨b, 0, .none⟩ = some (.chan none)) : Calls Try.prog 15 #[.pointer (some ⟨b, 0, .none⟩)] w fun e w' => e = .returned (.int .i64 0) ∧ w' = w := by
  go_enter Try.func15, Try.ntmps15
  go_wp2_with (go_at_call 18; refine (none_odd _ _ h).mono ?_; rintro e w' ⟨rfl, rfl⟩)
  go_ret
  exact ⟨rfl, rfl⟩
theorem all_nil (w : World) : Calls Try.prog 16 #[.pointer none] w fun e w' => e = .returned (.slice none 0 0) ∧ w' = w := by
  go_enter Try.func16, Try.ntmps16
  go_wp2_with (go_at_call 18; refine (none_nil _).mono ?_; rintro e w' ⟨rfl, rfl⟩)
  go_ret
  exact ⟨rfl, rfl⟩
theorem all_odd (b : Nat) (w : World) (h : w.cell? ⟨b, 0, .none⟩ = some (.chan none)) : Calls Try.prog 16 #[.pointer (some ⟨b, 0, .none⟩)] w fun e w' => e = .returned (.slice none 0 0) ∧ w' = w := by
  go_enter Try.func16, Try.ntmps16
  go_wp2_with (go_at_call 18; refine (none_odd _ _ h).mono ?_; rintro e w' ⟨rfl, rfl⟩)
  go_ret
  exact ⟨rfl, rfl⟩
theorem clone_nil (w : World) : Calls Try.prog 11 #[.pointer none] w fun e w' => e = .returned (.pointer none) ∧ w' = w := by
  go_enter Try.func11, Try.ntmps11
  go_wp2_with (go_at_call 18; refine (none_nil _).mono ?_; rintro e w' ⟨rfl, rfl⟩)
  go_ret
  exact ⟨rfl, rfl⟩
theorem clone_odd (b : Nat) (w : World) (h : w.cell? ⟨b, 0, .none⟩ = some (.chan none)) : Calls Try.prog 11 #[.pointer (some ⟨b, 0, .none⟩)] w fun e w' => e = .returned (.pointer none) ∧ w' = w := by
  go_enter Try.func11, Try.ntmps11
  go_wp2_with (go_at_call 18; refine (none_odd _ _ h).mono ?_; rintro e w' ⟨rfl, rfl⟩)
  go_ret
  exact ⟨rfl, rfl⟩

/-! ### over one that New made -/
theorem put_yes (b c cap : Nat) (xs : List Int) (x : Int) (w : World) (h : Pt w b c cap xs) (hr : xs.length < cap) : Calls Try.prog 13 #[.pointer (some ⟨b, 0, .none⟩), .int .i64 x] w fun e w' => e = .returned (.bool true) ∧ Pt w' b c cap (xs ++ [x]) ∧ Kept (Only c) w w' := by
  have h1 := h.1
  go_enter Try.func13, Try.ntmps13
  go_wp2_with (first | (go_at_call 18; refine (none_some _ _ _ h1).mono ?_; rintro e w' ⟨rfl, rfl⟩) | (go_at_call 20; refine (put_room c cap xs x _ h.2.1 hr).mono ?_; rintro e w1 ⟨rfl, hc, hk⟩))
  go_ret
  exact ⟨rfl, h.next hk hc, hk⟩
theorem put_no (b c cap : Nat) (xs : List Int) (x : Int) (w : World) (h : Pt w b c cap xs) (hr : cap ≤ xs.length) : Calls Try.prog 13 #[.pointer (some ⟨b, 0, .none⟩), .int .i64 x] w fun e w' => e = .returned (.bool false) ∧ Pt w' b c cap xs ∧ Kept (Only c) w w' := by
  have h1 := h.1
  go_enter Try.func13, Try.ntmps13
  go_wp2_with (first | (go_at_call 18; refine (none_some _ _ _ h1).mono ?_; rintro e w' ⟨rfl, rfl⟩) | (go_at_call 20; refine (put_full c cap xs x _ h.2.1 hr).mono ?_; rintro e w1 ⟨rfl, hc, hk⟩))
  go_ret
  exact ⟨rfl, h.next hk hc, hk⟩
theorem take_yes (b c cap : Nat) (xs : List Int) (x : Int) (w : World) (h : Pt w b c cap (x :: xs)) : Calls Try.prog 12 #[.pointer (some ⟨b, 0, .none⟩)] w fun e w' => e = .returned (.tuple #[.int .i64 x, .bool true]) ∧ Pt w' b c cap xs ∧ Kept (Only c) w w' := by
  have h1 := h.1
  go_enter Try.func12, Try.ntmps12
  go_wp2_with (first | (go_at_call 18; refine (none_some _ _ _ h1).mono ?_; rintro e w' ⟨rfl, rfl⟩) | (go_at_call 19; refine (take_some c cap xs x _ h.2.1).mono ?_; rintro e w1 ⟨rfl, hc, hk⟩))
  go_ret2
  exact ⟨rfl, h.next hk hc, hk⟩
theorem take_no (b c cap : Nat) (w : World) (h : Pt w b c cap []) : Calls Try.prog 12 #[.pointer (some ⟨b, 0, .none⟩)] w fun e w' => e = .returned (.tuple #[.int .i64 0, .bool false]) ∧ Pt w' b c cap [] ∧ Kept (Only c) w w' := by
  have h1 := h.1
  go_enter Try.func12, Try.ntmps12
  go_wp2_with (first | (go_at_call 18; refine (none_some _ _ _ h1).mono ?_; rintro e w' ⟨rfl, rfl⟩) | (go_at_call 19; refine (take_none c cap _ h.2.1).mono ?_; rintro e w1 ⟨rfl, hc, hk⟩))
  go_ret2
  exact ⟨rfl, h.next hk hc, hk⟩
theorem all_some (b c cap : Nat) (xs : List Int) (w : World) (h : Pt w b c cap xs) (hc : xs.length ≤ cap) (hm : cap ≤ 256) : Calls Try.prog 16 #[.pointer (some ⟨b, 0, .none⟩)] w (AllPost w c cap xs) := by
  have h1 := h.1
  go_enter Try.func16, Try.ntmps16
  go_wp2_with (first | (go_at_call 18; refine (none_some _ _ _ h1).mono ?_; rintro e w' ⟨rfl, rfl⟩) | (go_at_call 21; refine (all_line c cap xs _ h.2.1 hc hm).mono ?_; rintro e w1 ⟨v, rfl, hs, hch, hk⟩))
  go_ret
  exact ⟨v, rfl, hs, hch, hk⟩
theorem run_len (w : World) (c cap : Nat) (xs : List Int) (h : Ch w c cap xs) (ty : TypeId) : (Builtin.len_ #[36] ty #[.chan (some c)]).run Try.prog w = .ok (goInt xs.length) w := by
  obtain ⟨s, r, h2⟩ := h
  have := run_len_chan (P := Try.prog) (w := w) 36 ty Try.underlying36 h2
  rw [List.size_toArray, vals_len] at this
  exact this
theorem run_cap (w : World) (c cap : Nat) (xs : List Int) (h : Ch w c cap xs) (ty : TypeId) : (Builtin.cap_ #[36] ty #[.chan (some c)]).run Try.prog w = .ok (goInt cap) w := by
  obtain ⟨s, r, h2⟩ := h
  exact run_cap_chan (P := Try.prog) (w := w) 36 ty Try.underlying36 h2
theorem len_some (b c cap : Nat) (xs : List Int) (w : World) (h : Pt w b c cap xs) : Calls Try.prog 14 #[.pointer (some ⟨b, 0, .none⟩)] w fun e w' => e = .returned (.int .i64 xs.length) ∧ w' = w := by
  have h1 := h.1
  have hlen := run_len w c cap xs h.2.1
  go_enter Try.func14, Try.ntmps14
  go_wp2_with (go_at_call 18; refine (none_some _ _ _ h1).mono ?_; rintro e w' ⟨rfl, rfl⟩)
  go_ret
  exact ⟨rfl, rfl⟩
theorem room_some (b c cap : Nat) (xs : List Int) (w : World) (h : Pt w b c cap xs) (hc : xs.length ≤ cap) (hm : cap ≤ 256) : Calls Try.prog 15 #[.pointer (some ⟨b, 0, .none⟩)] w fun e w' => e = .returned (.int .i64 (cap - xs.length)) ∧ ∃ k, w' = w.drewN k := by
  have h1 := h.1
  have hlen := fun nq => run_len (w.drewN nq) c cap xs h.2.1
  have hcap := fun nq => run_cap (w.drewN nq) c cap xs h.2.1
  go_enter Try.func15, Try.ntmps15
  go_wp2_with (go_at_call 18; refine (none_some _ _ _ h1).mono ?_; rintro e w' ⟨rfl, rfl⟩)
  go_quiet (fail)
  go_wp2
  go_ret
  exact ⟨by simp, _, rfl⟩
end Go.Proofs.Ytelpplfjcoeghaa.Pipe
