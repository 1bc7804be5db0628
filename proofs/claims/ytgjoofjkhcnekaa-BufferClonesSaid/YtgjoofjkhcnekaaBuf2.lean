/-
  The walks of package buffer: Pop, Len, Full, All, over a buffer that New made, over nil, and over one that New did not make.
-/
import Derived.Test.YtgjoofjkhcnekaaBuf
set_option linter.unusedVariables false
namespace Go.Proofs.Ytgjoofjkhcnekaa.Buf
open Go.RowKit Go.Conc Go.Proofs.Ytgjoofjkhcnekaa.Chan Go.Proofs.Ytgjoofjkhcnekaa.Own

theorem zero_cells (w w1 : World) (c : Nat) (hc : c < w.heap.size) (hk : Kept (Only c) (w.alloc (.cells #[.int .i64 0, .int .i64 0, .int .i64 0, .int .i64 0, .int .i64 0, .int .i64 0, .int .i64 0, .int .i64 0] 35)) w1) (i : Nat) (hi : i < 8) :
    w1.cell? ⟨w.heap.size, i, .none⟩ = some (.int .i64 0) ∧ w1.frozen? ⟨w.heap.size, i, .none⟩ = false := by
  rw [hk.cell (p := ⟨w.heap.size, i, .none⟩) (by simp) (by simp [Only]; omega), hk.frozen (p := ⟨w.heap.size, i, .none⟩) (by simp) (by simp [Only]; omega)]
  refine ⟨?_, by unfold World.frozen?; rw [heap_alloc_new]; simp⟩
  rw [World.cell?_alloc_new]
  match i, hi with
  | 0, _ | 1, _ | 2, _ | 3, _ | 4, _ | 5, _ | 6, _ | 7, _ => rfl

theorem pop_yes (b c cap : Nat) (xs : List Ent) (x : Ent) (w : World) (h : Pt w b c cap (x :: xs)) : Calls Try.prog 12 #[.pointer (some ⟨b, 0, .none⟩)] w fun e w' => e = .returned (.tuple #[x.v, .bool true]) ∧ Pt w' b c cap xs ∧ Kept (Only c) w w' := by
  have hA := (Kept.refl No w).alloc (.cells #[.int .i64 0, .int .i64 0, .int .i64 0, .int .i64 0, .int .i64 0, .int .i64 0, .int .i64 0, .int .i64 0] 35)
  have hp := h.kept hA id id
  have h1 := hp.1
  have hcl := h.2.1.lt
  go_enter Try.func12, Try.ntmps12
  go_wp2_with (first | (go_at_call 22; refine (none_some _ _ _ h1).mono ?_; rintro e w' ⟨rfl, rfl⟩))
  refine (pop_some c cap xs x _ hp.2.1).mono ?_
  rintro e w1 ⟨rfl, hc, hk⟩
  have hz := zero_cells w w1 c hcl hk
  obtain ⟨z0, f0⟩ := hz 0 (by omega)
  obtain ⟨z1, f1⟩ := hz 1 (by omega)
  obtain ⟨z2, f2⟩ := hz 2 (by omega)
  obtain ⟨z3, f3⟩ := hz 3 (by omega)
  obtain ⟨z4, f4⟩ := hz 4 (by omega)
  obtain ⟨z5, f5⟩ := hz 5 (by omega)
  obtain ⟨z6, f6⟩ := hz 6 (by omega)
  obtain ⟨z7, f7⟩ := hz 7 (by omega)
  clear hz
  have hK : Kept (Only c) w w1 := (hA.mono (fun _ _ f => f.elim)).trans hk (fun _ _ h => h)
  have hp1 : Pt w1 b c cap xs := h.next hK hc
  have hbl := h.2.2.1
  clear h hp hk hA h1
  obtain ⟨k, i, j, n, cc, g, gen, pc⟩ := x
  simp only [Ent.v]
  go_wp2_with fail
  refine bodyPost_ret (v := .tuple #[.agg #[.int .i64 k, .int .i64 i, .int .i64 j, .int .i64 n, .int .i64 cc, .int .i64 g, .int .i64 gen, .int .i64 pc], .bool true]) (by simp [results, Try.results12, go_sem, z0, z1, z2, z3, z4, z5, z6, z7]) rfl ⟨rfl, ?_, ?_⟩
  · refine hp1.kept (S := Only w.heap.size) ?_ (by simp [Only]; omega) (by simp [Only]; omega)
    iterate 8 (refine Kept.setCell (S := Only w.heap.size) ?_ (fun _ => by exact rfl) _)
    exact Kept.refl _ _
  · iterate 8 (refine Kept.setCell ?_ (fun hh => absurd hh (Nat.lt_irrefl _)) _)
    exact hK

theorem pop_no (b c cap : Nat) (w : World) (h : Pt w b c cap []) : Calls Try.prog 12 #[.pointer (some ⟨b, 0, .none⟩)] w fun e w' => e = .returned (.tuple #[zero.v, .bool false]) ∧ Pt w' b c cap [] ∧ Kept (Only c) w w' := by
  have hA := (Kept.refl No w).alloc (.cells #[.int .i64 0, .int .i64 0, .int .i64 0, .int .i64 0, .int .i64 0, .int .i64 0, .int .i64 0, .int .i64 0] 35)
  have hp := h.kept hA id id
  have h1 := hp.1
  have hcl := h.2.1.lt
  go_enter Try.func12, Try.ntmps12
  go_wp2_with (first | (go_at_call 22; refine (none_some _ _ _ h1).mono ?_; rintro e w' ⟨rfl, rfl⟩))
  refine (pop_none c cap _ hp.2.1).mono ?_
  rintro e w1 ⟨rfl, hc, hk⟩
  have hz := zero_cells w w1 c hcl hk
  obtain ⟨z0, f0⟩ := hz 0 (by omega)
  obtain ⟨z1, f1⟩ := hz 1 (by omega)
  obtain ⟨z2, f2⟩ := hz 2 (by omega)
  obtain ⟨z3, f3⟩ := hz 3 (by omega)
  obtain ⟨z4, f4⟩ := hz 4 (by omega)
  obtain ⟨z5, f5⟩ := hz 5 (by omega)
  obtain ⟨z6, f6⟩ := hz 6 (by omega)
  obtain ⟨z7, f7⟩ := hz 7 (by omega)
  clear hz
  have hK : Kept (Only c) w w1 := (hA.mono (fun _ _ f => f.elim)).trans hk (fun _ _ h => h)
  have hp1 : Pt w1 b c cap [] := h.next hK hc
  have hbl := h.2.2.1
  clear h hp hk hA h1
  simp only [Ent.v, zero]
  go_wp2_with fail
  refine bodyPost_ret (v := .tuple #[.agg #[.int .i64 0, .int .i64 0, .int .i64 0, .int .i64 0, .int .i64 0, .int .i64 0, .int .i64 0, .int .i64 0], .bool false]) (by simp [results, Try.results12, go_sem, z0, z1, z2, z3, z4, z5, z6, z7]) rfl ⟨rfl, ?_, ?_⟩
  · refine hp1.kept (S := Only w.heap.size) ?_ (by simp [Only]; omega) (by simp [Only]; omega)
    iterate 8 (refine Kept.setCell (S := Only w.heap.size) ?_ (fun _ => by exact rfl) _)
    exact Kept.refl _ _
  · iterate 8 (refine Kept.setCell ?_ (fun hh => absurd hh (Nat.lt_irrefl _)) _)
    exact hK
theorem pop_nil (w : World) : Calls Try.prog 12 #[.pointer none] w fun e w' => e = .returned (.tuple #[zero.v, .bool false]) ∧ Kept No w w' := by
  go_enter Try.func12, Try.ntmps12
  go_wp2_with (go_at_call 22; refine (none_nil _).mono ?_; rintro e w' ⟨rfl, rfl⟩)
  exact bodyPost_ret (v := .tuple #[.agg #[.int .i64 0, .int .i64 0, .int .i64 0, .int .i64 0, .int .i64 0, .int .i64 0, .int .i64 0, .int .i64 0], .bool false]) (by simp [results, Try.results12, go_sem]) rfl ⟨rfl, (Kept.refl No w).alloc _⟩
theorem pop_odd (b : Nat) (w : World) (h : w.cell? ⟨b, 0, .none⟩ = some (.chan none)) : Calls Try.prog 12 #[.pointer (some ⟨b, 0, .none⟩)] w fun e w' => e = .returned (.tuple #[zero.v, .bool false]) ∧ Kept No w w' := by
  have hb : b < w.heap.size := by
    rcases Nat.lt_or_ge b w.heap.size with h1 | h1
    · exact h1
    · simp [World.cell?, Array.getElem?_eq_none h1] at h
  have h1 : (w.alloc (.cells #[.int .i64 0, .int .i64 0, .int .i64 0, .int .i64 0, .int .i64 0, .int .i64 0, .int .i64 0, .int .i64 0] 35)).cell? ⟨b, 0, .none⟩ = some (.chan none) := by
    rw [((Kept.refl No w).alloc _).cell (p := ⟨b, 0, .none⟩) hb id]; exact h
  go_enter Try.func12, Try.ntmps12
  go_wp2_with (go_at_call 22; refine (none_odd _ _ h1).mono ?_; rintro e w' ⟨rfl, rfl⟩)
  exact bodyPost_ret (v := .tuple #[.agg #[.int .i64 0, .int .i64 0, .int .i64 0, .int .i64 0, .int .i64 0, .int .i64 0, .int .i64 0, .int .i64 0], .bool false]) (by simp [results, Try.results12, go_sem]) rfl ⟨rfl, (Kept.refl No w).alloc _⟩

theorem run_len (w : World) (c cap : Nat) (xs : List Ent) (h : Ch w c cap xs) (ty : TypeId) : (Builtin.len_ #[43] ty #[.chan (some c)]).run Try.prog w = .ok (goInt xs.length) w := by
  obtain ⟨s, r, h2⟩ := h
  have := run_len_chan (P := Try.prog) (w := w) 43 ty Try.underlying43 h2
  rw [List.size_toArray, evs_len] at this
  exact this
theorem run_cap (w : World) (c cap : Nat) (xs : List Ent) (h : Ch w c cap xs) (ty : TypeId) : (Builtin.cap_ #[43] ty #[.chan (some c)]).run Try.prog w = .ok (goInt cap) w := by
  obtain ⟨s, r, h2⟩ := h
  exact run_cap_chan (P := Try.prog) (w := w) 43 ty Try.underlying43 h2
theorem len_some (b c cap : Nat) (xs : List Ent) (w : World) (h : Pt w b c cap xs) : Calls Try.prog 15 #[.pointer (some ⟨b, 0, .none⟩)] w fun e w' => e = .returned (.int .i64 xs.length) ∧ w' = w := by
  have h1 := h.1
  have hlen := run_len w c cap xs h.2.1
  go_enter Try.func15, Try.ntmps15
  go_wp2_with (go_at_call 22; refine (none_some _ _ _ h1).mono ?_; rintro e w' ⟨rfl, rfl⟩)
  go_ret
  exact ⟨rfl, rfl⟩
theorem len_nil (w : World) : Calls Try.prog 15 #[.pointer none] w fun e w' => e = .returned (.int .i64 0) ∧ w' = w := by
  go_enter Try.func15, Try.ntmps15
  go_wp2_with (go_at_call 22; refine (none_nil _).mono ?_; rintro e w' ⟨rfl, rfl⟩)
  go_ret
  exact ⟨rfl, rfl⟩
theorem len_odd (b : Nat) (w : World) (h : w.cell? ⟨b, 0, .none⟩ = some (.chan none)) : Calls Try.prog 15 #[.pointer (some ⟨b, 0, .none⟩)] w fun e w' => e = .returned (.int .i64 0) ∧ w' = w := by
  go_enter Try.func15, Try.ntmps15
  go_wp2_with (go_at_call 22; refine (none_odd _ _ h).mono ?_; rintro e w' ⟨rfl, rfl⟩)
  go_ret
  exact ⟨rfl, rfl⟩
theorem full_some (b c cap : Nat) (xs : List Ent) (w : World) (h : Pt w b c cap xs) : Calls Try.prog 17 #[.pointer (some ⟨b, 0, .none⟩)] w fun e w' => e = .returned (.bool (((xs.length : Nat) : Int) == (cap : Int))) ∧ ∃ k, w' = w.drewN k := by
  have h1 := h.1
  have hlen := fun nq => run_len (w.drewN nq) c cap xs h.2.1
  have hcap := fun nq => run_cap (w.drewN nq) c cap xs h.2.1
  go_enter Try.func17, Try.ntmps17
  go_wp2_with fail
  go_quiet ((go_at_call 22; exact Calls.quiet_of_same (none_some b c _ (by exact h1))))
  go_wp2
  go_ret
  exact ⟨by simp, _, rfl⟩
theorem full_nil (w : World) : Calls Try.prog 17 #[.pointer none] w fun e w' => e = .returned (.bool true) ∧ ∃ k, w' = w.drewN k := by
  go_enter Try.func17, Try.ntmps17
  go_wp2_with fail
  go_quiet ((go_at_call 22; exact Calls.quiet_of_same (none_nil _)))
  go_wp2
  go_ret
  exact ⟨rfl, _, rfl⟩
theorem full_odd (b : Nat) (w : World) (h : w.cell? ⟨b, 0, .none⟩ = some (.chan none)) : Calls Try.prog 17 #[.pointer (some ⟨b, 0, .none⟩)] w fun e w' => e = .returned (.bool true) ∧ ∃ k, w' = w.drewN k := by
  go_enter Try.func17, Try.ntmps17
  go_wp2_with fail
  go_quiet ((go_at_call 22; exact Calls.quiet_of_same (none_odd b _ (by exact h))))
  go_wp2
  go_ret
  exact ⟨rfl, _, rfl⟩
end Go.Proofs.Ytgjoofjkhcnekaa.Buf
