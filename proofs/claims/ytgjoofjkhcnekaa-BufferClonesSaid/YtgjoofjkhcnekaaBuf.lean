/-
  The walks of package buffer: the queue of entries under it, over the queue's channel.
-/
import Derived.Test.YtgjoofjkhcnekaaRows
import Derived.Test.YtgjoofjkhcnekaaChan
import Derived.Test.YtgjoofjkhcnekaaOwn
import Derived.ProofKit
import Derived.OpenShut
import Derived.Handy
import Derived.Lib.Hide
import Derived.BigQuiet
import Derived.Deep.QuietTactic
import Derived.Deep.Cut
import Derived.LoopTactic
import Derived.Laws.StructEq
import Derived.Deep.RegionWith
set_option linter.unusedVariables false
namespace Go.Proofs.Ytgjoofjkhcnekaa.Buf
open Go.RowKit Go.Conc Go.Proofs.Ytgjoofjkhcnekaa.Chan Go.Proofs.Ytgjoofjkhcnekaa.Own

/-- An entry: its place, its word, which life, which instruction. -/
structure Ent where
  k : Int
  i : Int
  j : Int
  n : Int
  c : Int
  g : Int
  gen : Int
  pc : Int
def Ent.zs (e : Ent) : List Int := [e.k, e.i, e.j, e.n, e.c, e.g, e.gen, e.pc]
def Ent.v (e : Ent) : Value := .agg #[.int .i64 e.k, .int .i64 e.i, .int .i64 e.j, .int .i64 e.n, .int .i64 e.c, .int .i64 e.g, .int .i64 e.gen, .int .i64 e.pc]
def zero : Ent := ⟨0, 0, 0, 0, 0, 0, 0, 0⟩
def evs (xs : List Ent) : List Value := xs.map Ent.v
def ecs (xs : List Ent) : List Value := xs.flatMap fun e => vals e.zs
theorem evs_len (xs : List Ent) : (evs xs).length = xs.length := by simp [evs]
theorem ecs_len (xs : List Ent) : (ecs xs).length = xs.length * 8 := by
  induction xs with
  | nil => rfl
  | cons e xs ih => simp [ecs, vals, Ent.zs] at ih ⊢; omega
theorem ecs_app (xs ys : List Ent) : ecs (xs ++ ys) = ecs xs ++ ecs ys := by simp [ecs]
theorem ecs_cons (e : Ent) (xs : List Ent) : ecs (e :: xs) = vals e.zs ++ ecs xs := by simp [ecs]

/-- Block c is a channel in which xs wait. -/
def Ch (w : World) (c cap : Nat) (xs : List Ent) : Prop := ∃ s r, w.heap[c]? = some (.chan cap (evs xs).toArray false s r false)
theorem Ch.lt {w : World} {c cap : Nat} {xs : List Ent} (h : Ch w c cap xs) : c < w.heap.size := by
  obtain ⟨s, r, h⟩ := h
  exact (Array.getElem?_eq_some_iff.1 h).1
theorem Ch.kept {S : Nat → Prop} {w w' : World} {c cap : Nat} {xs : List Ent} (h : Ch w c cap xs) (hk : Kept S w w') (hS : ¬ S c) : Ch w' c cap xs := by
  have hl := h.lt
  obtain ⟨s, r, h⟩ := h
  exact ⟨s, r, (hk.block c hl hS).trans h⟩
theorem Ch.of_block {w w' : World} {c cap : Nat} {xs : List Ent} (h : Ch w c cap xs) (hb : w'.heap[c]? = w.heap[c]?) : Ch w' c cap xs := by
  obtain ⟨s, r, h⟩ := h
  exact ⟨s, r, hb.trans h⟩
/-- A buffer stands at block b, its channel at block c. -/
def Pt (w : World) (b c cap : Nat) (xs : List Ent) : Prop := w.cell? ⟨b, 0, .none⟩ = some (.chan (some c)) ∧ Ch w c cap xs ∧ b < w.heap.size ∧ b ≠ c

theorem none_nil (w : World) : Calls Try.prog 22 #[.pointer none] w fun e w' => e = .returned (.bool true) ∧ w' = w := by
  go_enter Try.func22, Try.ntmps22
  go_wp2
  go_ret
  exact ⟨rfl, rfl⟩
theorem none_odd (b : Nat) (w : World) (h : w.cell? ⟨b, 0, .none⟩ = some (.chan none)) : Calls Try.prog 22 #[.pointer (some ⟨b, 0, .none⟩)] w fun e w' => e = .returned (.bool true) ∧ w' = w := by
  have he := run_eql_chan_none (P := Try.prog) w Try.underlying43
  go_enter Try.func22, Try.ntmps22
  go_wp2
  go_ret
  exact ⟨rfl, rfl⟩
theorem none_some (b c : Nat) (w : World) (h : w.cell? ⟨b, 0, .none⟩ = some (.chan (some c))) : Calls Try.prog 22 #[.pointer (some ⟨b, 0, .none⟩)] w fun e w' => e = .returned (.bool false) ∧ w' = w := by
  have he := run_eql_chan_some (P := Try.prog) w c Try.underlying43
  go_enter Try.func22, Try.ntmps22
  go_wp2
  go_ret
  exact ⟨rfl, rfl⟩

theorem push_room (c cap : Nat) (xs : List Ent) (x : Ent) (w : World) (h : Ch w c cap xs) (hr : xs.length < cap) :
    Calls Try.prog 24 #[.chan (some c), x.v] w fun e w' => e = .returned (.bool true) ∧ Ch w' c cap (xs ++ [x]) ∧ Kept (Only c) w w' := by
  have hl := h.lt
  obtain ⟨s, r, h2⟩ := h
  obtain ⟨k, i, j, n, cc, g, gen, pc⟩ := x
  simp only [Ent.v]
  go_enter Try.func24, Try.ntmps24
  go_upto_region 3 with (fail)
  refine wp_send_room (z := zero.v) (v := (Ent.mk k i j n cc g gen pc).v) (cap := cap) (buf := (evs xs).toArray) (s := s) (r := r) (tm := false) rfl rfl rfl rfl rfl (by kernel_rfl) (by rw [Below.heap_alloc _ _ _ hl]; exact h2) (by simpa [evs] using hr) ?_
  go_wp2
  go_ret
  refine ⟨rfl, ⟨s + 1, r, ?_⟩, ((Kept.refl (Only c) w).alloc _).setChan (fun _ => rfl) _ _ _ _ _ _⟩
  rw [heap_setChan _ _ _ _ _ _ _ _ (by simp; omega)]
  simp [evs]
theorem push_full (c cap : Nat) (xs : List Ent) (x : Ent) (w : World) (h : Ch w c cap xs) (hr : cap ≤ xs.length) :
    Calls Try.prog 24 #[.chan (some c), x.v] w fun e w' => e = .returned (.bool false) ∧ Ch w' c cap xs ∧ Kept (Only c) w w' := by
  have hl := h.lt
  have h0 := h
  obtain ⟨s, r, h2⟩ := h
  obtain ⟨k, i, j, n, cc, g, gen, pc⟩ := x
  simp only [Ent.v]
  go_enter Try.func24, Try.ntmps24
  go_upto_region 3 with (fail)
  refine wp_send_full (z := zero.v) (v := (Ent.mk k i j n cc g gen pc).v) (cap := cap) (buf := (evs xs).toArray) (s := s) (r := r) (tm := false) rfl rfl rfl rfl rfl (by kernel_rfl) (by rw [Below.heap_alloc _ _ _ hl]; exact h2) (by simpa [evs] using hr) ?_
  go_wp2
  go_ret
  exact ⟨rfl, h0.kept ((Kept.refl No w).alloc _) id, (Kept.refl (Only c) w).alloc _⟩
theorem pop_some (c cap : Nat) (xs : List Ent) (x : Ent) (w : World) (h : Ch w c cap (x :: xs)) :
    Calls Try.prog 23 #[.chan (some c)] w fun e w' => e = .returned (.tuple #[x.v, .bool true]) ∧ Ch w' c cap xs ∧ Kept (Only c) w w' := by
  have hl := h.lt
  obtain ⟨s, r, h2⟩ := h
  obtain ⟨k, i, j, n, cc, g, gen, pc⟩ := x
  go_enter Try.func23, Try.ntmps23
  go_upto_region 2 with (fail)
  refine wp_recv_some (z := zero.v) (cap := cap) (buf := (evs (⟨k, i, j, n, cc, g, gen, pc⟩ :: xs)).toArray) (closed := false) (s := s) (r := r) (tm := false) rfl rfl rfl rfl (by kernel_rfl) (by rw [Below.heap_alloc _ _ _ hl]; exact h2) (by simp [evs]) ?_
  rw [show (evs (⟨k, i, j, n, cc, g, gen, pc⟩ :: xs)).toArray.getD 0 undef = .agg #[.int .i64 k, .int .i64 i, .int .i64 j, .int .i64 n, .int .i64 cc, .int .i64 g, .int .i64 gen, .int .i64 pc] by simp [evs, Ent.v]]
  rw [show (evs (⟨k, i, j, n, cc, g, gen, pc⟩ :: xs)).toArray.extract 1 (evs (⟨k, i, j, n, cc, g, gen, pc⟩ :: xs)).toArray.size = (evs xs).toArray by
    simp [evs]; rw [List.take_of_length_le (by simp)]]
  rw [setChan_alloc _ _ _ _ _ _ _ _ _ hl]
  have hk : Kept (Only c) w (w.setChan c cap (evs xs).toArray false s (r + 1) false) := (Kept.refl (Only c) w).setChan (fun _ => rfl) _ _ _ _ _ _
  have hch : Ch (w.setChan c cap (evs xs).toArray false s (r + 1) false) c cap xs := ⟨s, r + 1, heap_setChan _ _ _ _ _ _ _ _ hl⟩
  have hsz : w.heap.size = (w.setChan c cap (evs xs).toArray false s (r + 1) false).heap.size := (size_setChan _ _ _ _ _ _ _ _).symm
  generalize w.setChan c cap (evs xs).toArray false s (r + 1) false = w2 at hk hch hsz ⊢
  rw [hsz]
  clear hsz h2 hl
  go_wp2
  exact bodyPost_ret (v := .tuple #[.agg #[.int .i64 k, .int .i64 i, .int .i64 j, .int .i64 n, .int .i64 cc, .int .i64 g, .int .i64 gen, .int .i64 pc], .bool true]) (by simp [results, Try.results23, go_sem]) rfl ⟨rfl, hch.kept ((Kept.refl No w2).alloc _) id, hk.alloc _⟩
theorem pop_none (c cap : Nat) (w : World) (h : Ch w c cap []) :
    Calls Try.prog 23 #[.chan (some c)] w fun e w' => e = .returned (.tuple #[zero.v, .bool false]) ∧ Ch w' c cap [] ∧ Kept (Only c) w w' := by
  have hl := h.lt
  have h0 := h
  obtain ⟨s, r, h2⟩ := h
  go_enter Try.func23, Try.ntmps23
  go_upto_region 2 with (fail)
  refine wp_recv_none (z := zero.v) (cap := cap) (s := s) (r := r) (tm := false) rfl rfl rfl rfl (by kernel_rfl) (by rw [Below.heap_alloc _ _ _ hl]; exact h2) ?_
  go_wp2
  exact bodyPost_ret (v := .tuple #[.agg #[.int .i64 0, .int .i64 0, .int .i64 0, .int .i64 0, .int .i64 0, .int .i64 0, .int .i64 0, .int .i64 0], .bool false]) (by simp [results, Try.results23, go_sem]) rfl ⟨rfl, h0.kept ((Kept.refl No w).alloc _) id, (Kept.refl (Only c) w).alloc _⟩

/-! ### the exported calls, over a buffer that New made -/
theorem Pt.kept {S : Nat → Prop} {w w' : World} {b c cap : Nat} {xs : List Ent} (h : Pt w b c cap xs) (hk : Kept S w w') (hb : ¬ S b) (hc : ¬ S c) : Pt w' b c cap xs :=
  ⟨(hk.cell (p := ⟨b, 0, .none⟩) h.2.2.1 hb).trans h.1, h.2.1.kept hk hc, Nat.lt_of_lt_of_le h.2.2.1 hk.size, h.2.2.2⟩
theorem Pt.next {w w' : World} {b c cap : Nat} {xs ys : List Ent} (h : Pt w b c cap xs) (hk : Kept (Only c) w w') (hc : Ch w' c cap ys) : Pt w' b c cap ys :=
  ⟨(hk.cell (p := ⟨b, 0, .none⟩) h.2.2.1 h.2.2.2).trans h.1, hc, Nat.lt_of_lt_of_le h.2.2.1 hk.size, h.2.2.2⟩

theorem push_yes (b c cap : Nat) (xs : List Ent) (x : Ent) (w : World) (h : Pt w b c cap xs) (hr : xs.length < cap) : Calls Try.prog 14 #[.pointer (some ⟨b, 0, .none⟩), x.v] w fun e w' => e = .returned (.bool true) ∧ Pt w' b c cap (xs ++ [x]) ∧ Kept (Only c) w w' := by
  have hA : Kept (Only c) w (w.alloc (.cells #[.int .i64 x.k, .int .i64 x.i, .int .i64 x.j, .int .i64 x.n, .int .i64 x.c, .int .i64 x.g, .int .i64 x.gen, .int .i64 x.pc] 35)) := (Kept.refl (Only c) w).alloc _
  have hp := h.kept ((Kept.refl No w).alloc (.cells #[.int .i64 x.k, .int .i64 x.i, .int .i64 x.j, .int .i64 x.n, .int .i64 x.c, .int .i64 x.g, .int .i64 x.gen, .int .i64 x.pc] 35)) id id
  have h1 := hp.1
  obtain ⟨k, i, j, n, cc, g, gen, pc⟩ := x
  simp only [Ent.v]
  go_enter Try.func14, Try.ntmps14
  go_wp2_with fail
  go_region_with (first | (go_at_call 22; refine (none_some b c _ (by exact h1)).mono ?_; rintro e w' ⟨rfl, rfl⟩) | (go_at_call 24; refine (push_room c cap xs ⟨k, i, j, n, cc, g, gen, pc⟩ _ (by exact hp.2.1) hr).mono ?_; rintro e w1 ⟨rfl, hc, hk⟩))
  all_goals
    go_wp2
    go_ret
    exact ⟨rfl, Pt.next (by exact hp) hk hc, hA.drew.trans hk (fun _ _ h => h)⟩
theorem push_no (b c cap : Nat) (xs : List Ent) (x : Ent) (w : World) (h : Pt w b c cap xs) (hr : cap ≤ xs.length) : Calls Try.prog 14 #[.pointer (some ⟨b, 0, .none⟩), x.v] w fun e w' => e = .returned (.bool false) ∧ Pt w' b c cap xs ∧ Kept (Only c) w w' := by
  have hA : Kept (Only c) w (w.alloc (.cells #[.int .i64 x.k, .int .i64 x.i, .int .i64 x.j, .int .i64 x.n, .int .i64 x.c, .int .i64 x.g, .int .i64 x.gen, .int .i64 x.pc] 35)) := (Kept.refl (Only c) w).alloc _
  have hp := h.kept ((Kept.refl No w).alloc (.cells #[.int .i64 x.k, .int .i64 x.i, .int .i64 x.j, .int .i64 x.n, .int .i64 x.c, .int .i64 x.g, .int .i64 x.gen, .int .i64 x.pc] 35)) id id
  have h1 := hp.1
  obtain ⟨k, i, j, n, cc, g, gen, pc⟩ := x
  simp only [Ent.v]
  go_enter Try.func14, Try.ntmps14
  go_wp2_with fail
  go_region_with (first | (go_at_call 22; refine (none_some b c _ (by exact h1)).mono ?_; rintro e w' ⟨rfl, rfl⟩) | (go_at_call 24; refine (push_full c cap xs ⟨k, i, j, n, cc, g, gen, pc⟩ _ (by exact hp.2.1) hr).mono ?_; rintro e w1 ⟨rfl, hc, hk⟩))
  all_goals
    go_wp2
    go_ret
    exact ⟨rfl, Pt.next (by exact hp) hk hc, hA.drew.trans hk (fun _ _ h => h)⟩
theorem push_nil (x : Ent) (w : World) : Calls Try.prog 14 #[.pointer none, x.v] w fun e w' => e = .returned (.bool false) ∧ Kept No w w' := by
  obtain ⟨k, i, j, n, cc, g, gen, pc⟩ := x
  simp only [Ent.v]
  go_enter Try.func14, Try.ntmps14
  go_wp2_with fail
  go_quiet ((go_at_call 22; exact Calls.quiet_of_same (none_nil _)))
  go_wp2
  go_ret
  exact ⟨rfl, ((Kept.refl No w).alloc _).drewN _⟩
theorem push_odd (b : Nat) (x : Ent) (w : World) (h : w.cell? ⟨b, 0, .none⟩ = some (.chan none)) : Calls Try.prog 14 #[.pointer (some ⟨b, 0, .none⟩), x.v] w fun e w' => e = .returned (.bool false) ∧ Kept No w w' := by
  have hb : b < w.heap.size := by
    rcases Nat.lt_or_ge b w.heap.size with h1 | h1
    · exact h1
    · simp [World.cell?, Array.getElem?_eq_none h1] at h
  obtain ⟨k, i, j, n, cc, g, gen, pc⟩ := x
  have h1 : (w.alloc (.cells #[.int .i64 k, .int .i64 i, .int .i64 j, .int .i64 n, .int .i64 cc, .int .i64 g, .int .i64 gen, .int .i64 pc] 35)).cell? ⟨b, 0, .none⟩ = some (.chan none) := by
    rw [((Kept.refl No w).alloc _).cell (p := ⟨b, 0, .none⟩) hb id]; exact h
  simp only [Ent.v]
  go_enter Try.func14, Try.ntmps14
  go_wp2_with fail
  go_quiet ((go_at_call 22; exact Calls.quiet_of_same (none_odd b _ (by exact h1))))
  go_wp2
  go_ret
  exact ⟨rfl, ((Kept.refl No w).alloc _).drewN _⟩

end Go.Proofs.Ytgjoofjkhcnekaa.Buf
