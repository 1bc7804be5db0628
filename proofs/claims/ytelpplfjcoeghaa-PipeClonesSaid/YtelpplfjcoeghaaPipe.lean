/-
  The walks of package pipe: what its calls come to, over a pipe's two blocks (its struct and its channel), for the list of numbers that waits in it.
-/
import Derived.Test.YtelpplfjcoeghaaRows
import Derived.Test.YtelpplfjcoeghaaChan
import Derived.Test.YtelpplfjcoeghaaOwn
import Derived.ProofKit
import Derived.OpenShut
import Derived.Handy
import Derived.Lib.Hide
import Derived.BigQuiet
import Derived.Deep.QuietTactic
import Derived.Deep.Cut
import Derived.LoopTactic
namespace Go.Proofs.Ytelpplfjcoeghaa.Pipe
open Go.RowKit Go.Conc Go.Proofs.Ytelpplfjcoeghaa.Chan Go.Proofs.Ytelpplfjcoeghaa.Own

/-- Block c is a channel in which xs wait. -/
def Ch (w : World) (c cap : Nat) (xs : List Int) : Prop := ∃ s r, w.heap[c]? = some (.chan cap (vals xs).toArray false s r false)
theorem Ch.lt {w : World} {c cap : Nat} {xs : List Int} (h : Ch w c cap xs) : c < w.heap.size := by
  obtain ⟨s, r, h⟩ := h
  exact (Array.getElem?_eq_some_iff.1 h).1
theorem Ch.kept {S : Nat → Prop} {w w' : World} {c cap : Nat} {xs : List Int} (h : Ch w c cap xs) (hk : Kept S w w') (hS : ¬ S c) : Ch w' c cap xs := by
  have hl := h.lt
  obtain ⟨s, r, h⟩ := h
  exact ⟨s, r, (hk.block c hl hS).trans h⟩
theorem Ch.of_block {w w' : World} {c cap : Nat} {xs : List Int} (h : Ch w c cap xs) (hb : w'.heap[c]? = w.heap[c]?) : Ch w' c cap xs := by
  obtain ⟨s, r, h⟩ := h
  exact ⟨s, r, hb.trans h⟩
/-- A pipe stands at block b, its channel at block c. -/
def Pt (w : World) (b c cap : Nat) (xs : List Int) : Prop := w.cell? ⟨b, 0, .none⟩ = some (.chan (some c)) ∧ Ch w c cap xs ∧ b < w.heap.size ∧ b ≠ c

theorem none_nil (w : World) : Calls Try.prog 18 #[.pointer none] w fun e w' => e = .returned (.bool true) ∧ w' = w := by
  go_enter Try.func18, Try.ntmps18
  go_wp2
  go_ret
  exact ⟨rfl, rfl⟩
theorem none_odd (b : Nat) (w : World) (h : w.cell? ⟨b, 0, .none⟩ = some (.chan none)) : Calls Try.prog 18 #[.pointer (some ⟨b, 0, .none⟩)] w fun e w' => e = .returned (.bool true) ∧ w' = w := by
  have he := run_eql_chan_none (P := Try.prog) w Try.underlying36
  go_enter Try.func18, Try.ntmps18
  go_wp2
  go_ret
  exact ⟨rfl, rfl⟩
theorem none_some (b c : Nat) (w : World) (h : w.cell? ⟨b, 0, .none⟩ = some (.chan (some c))) : Calls Try.prog 18 #[.pointer (some ⟨b, 0, .none⟩)] w fun e w' => e = .returned (.bool false) ∧ w' = w := by
  have he := run_eql_chan_some (P := Try.prog) w c Try.underlying36
  go_enter Try.func18, Try.ntmps18
  go_wp2
  go_ret
  exact ⟨rfl, rfl⟩

/-! ### the row of anything -/
theorem put_room (c cap : Nat) (xs : List Int) (x : Int) (w : World) (h : Ch w c cap xs) (hr : xs.length < cap) :
    Calls Try.prog 20 #[.agg #[.chan (some c)], .int .i64 x] w fun e w' => e = .returned (.bool true) ∧ Ch w' c cap (xs ++ [x]) ∧ Kept (Only c) w w' := by
  have hl := h.lt
  obtain ⟨s, r, h2⟩ := h
  go_enter Try.func20, Try.ntmps20
  go_upto_region 3 with (fail)
  refine wp_send_room (z := .int .i64 0) (v := .int .i64 x) (cap := cap) (buf := (vals xs).toArray) (s := s) (r := r) (tm := false) rfl rfl rfl rfl rfl (by kernel_rfl) (by rw [Below.heap_alloc _ _ _ hl]; exact h2) (by simpa [vals] using hr) ?_
  go_wp2
  go_ret
  refine ⟨rfl, ⟨s + 1, r, ?_⟩, ((Kept.refl (Only c) w).alloc _).setChan (fun _ => rfl) _ _ _ _ _ _⟩
  rw [heap_setChan _ _ _ _ _ _ _ _ (by simp; omega)]
  simp [vals]
theorem put_full (c cap : Nat) (xs : List Int) (x : Int) (w : World) (h : Ch w c cap xs) (hr : cap ≤ xs.length) :
    Calls Try.prog 20 #[.agg #[.chan (some c)], .int .i64 x] w fun e w' => e = .returned (.bool false) ∧ Ch w' c cap xs ∧ Kept (Only c) w w' := by
  have hl := h.lt
  have h0 := h
  obtain ⟨s, r, h2⟩ := h
  go_enter Try.func20, Try.ntmps20
  go_upto_region 3 with (fail)
  refine wp_send_full (z := .int .i64 0) (v := .int .i64 x) (cap := cap) (buf := (vals xs).toArray) (s := s) (r := r) (tm := false) rfl rfl rfl rfl rfl (by kernel_rfl) (by rw [Below.heap_alloc _ _ _ hl]; exact h2) (by simpa [vals] using hr) ?_
  go_wp2
  go_ret
  have hk := (Kept.refl No w).alloc (.cells #[.chan (some c)] 38)
  exact ⟨rfl, h0.kept hk id, hk.mono (fun _ _ f => f.elim)⟩
theorem take_some (c cap : Nat) (xs : List Int) (x : Int) (w : World) (h : Ch w c cap (x :: xs)) :
    Calls Try.prog 19 #[.agg #[.chan (some c)]] w fun e w' => e = .returned (.tuple #[.int .i64 x, .bool true]) ∧ Ch w' c cap xs ∧ Kept (Only c) w w' := by
  have hl := h.lt
  obtain ⟨s, r, h2⟩ := h
  go_enter Try.func19, Try.ntmps19
  go_upto_region 2 with (fail)
  refine wp_recv_some (z := .int .i64 0) (cap := cap) (buf := (vals (x :: xs)).toArray) (closed := false) (s := s) (r := r) (tm := false) rfl rfl rfl rfl (by kernel_rfl) (by rw [Below.heap_alloc _ _ _ hl]; exact h2) (by simp [vals]) ?_
  go_wp2
  go_ret2
  refine ⟨by simp [vals], ⟨s, r + 1, ?_⟩, ((Kept.refl (Only c) w).alloc _).setChan (fun _ => rfl) _ _ _ _ _ _⟩
  rw [heap_setChan _ _ _ _ _ _ _ _ (by simp; omega)]
  have e : List.take ((vals (x :: xs)).length - 1) (vals (x :: xs)).tail = vals xs := by
    rw [List.take_of_length_le (by simp [vals])]; simp [vals]
  rw [e]
theorem take_none (c cap : Nat) (w : World) (h : Ch w c cap []) :
    Calls Try.prog 19 #[.agg #[.chan (some c)]] w fun e w' => e = .returned (.tuple #[.int .i64 0, .bool false]) ∧ Ch w' c cap [] ∧ Kept (Only c) w w' := by
  have hl := h.lt
  have h0 := h
  obtain ⟨s, r, h2⟩ := h
  go_enter Try.func19, Try.ntmps19
  go_upto_region 2 with (fail)
  refine wp_recv_none (z := .int .i64 0) (cap := cap) (s := s) (r := r) (tm := false) rfl rfl rfl rfl (by kernel_rfl) (by rw [Below.heap_alloc _ _ _ hl]; exact h2) ?_
  go_wp2
  go_ret2
  have hk := (Kept.refl No w).alloc (.cells #[.chan (some c)] 38)
  exact ⟨rfl, h0.kept hk id, hk.mono (fun _ _ f => f.elim)⟩

theorem info_int : (Try.prog.info? 3).map (fun i => (i.zero, i.size, i.bytes)) = some (some (.int .i64 0), 1, 8) := by kernel_rfl

theorem rot_head (xs : List Int) (k : Nat) (h : k < xs.length) : xs.drop k ++ xs.take k = xs[k] :: (xs.drop (k + 1) ++ xs.take k) := by
  rw [List.drop_eq_getElem_cons h]; rfl
theorem take_next (xs : List Int) (k : Nat) (h : k < xs.length) : vals (xs.take (k + 1)) = vals (xs.take k) ++ [.int .i64 xs[k]] := by
  rw [List.take_succ_eq_append_getElem h, vals_app]; rfl
theorem rot_next (xs : List Int) (k : Nat) (h : k < xs.length) : (xs.drop (k + 1) ++ xs.take k) ++ [xs[k]] = xs.drop (k + 1) ++ xs.take (k + 1) := by
  rw [List.take_succ_eq_append_getElem h, List.append_assoc]

def AllPost (w : World) (c cap : Nat) (xs : List Int) (e : Ending) (w' : World) : Prop :=
  ∃ v, e = .returned v ∧ Seg w' w.heap.size 3 1 v xs.length (vals xs) ∧ Ch w' c cap xs ∧ Kept (Only c) w w'

set_option maxHeartbeats 1000000 in
theorem all_line (c cap : Nat) (xs : List Int) (w : World) (h : Ch w c cap xs) (hc : xs.length ≤ cap) (hm : cap ≤ 256) :
    Calls Try.prog 21 #[.agg #[.chan (some c)]] w (AllPost w c cap xs) := by
  have hl := h.lt
  have h0 := h
  obtain ⟨s, r, h2⟩ := h
  obtain ⟨i0, hi, hz0, hz1, hz2⟩ := info_parts info_int
  have hlen : ∀ ty, (Builtin.len_ #[36] ty #[.chan (some c)]).run Try.prog (w.alloc (.cells #[.chan (some c)] 38)) = .ok (goInt xs.length) (w.alloc (.cells #[.chan (some c)] 38)) := fun ty => by
    have := run_len_chan (P := Try.prog) (w := w.alloc (.cells #[.chan (some c)] 38)) 36 ty Try.underlying36 (by rw [Below.heap_alloc _ _ _ hl]; exact h2)
    rw [List.size_toArray, vals_len] at this
    exact this
  go_enter Try.func21, Try.ntmps21
  go_wp2_with fail
  go_loopw [9, 3] (fun i v wr => ∃ k : Nat, k ≤ xs.length ∧ i = .int .i64 k ∧ Seg wr (w.heap.size + 1) 3 1 v k (vals (xs.take k)) ∧ Ch wr c cap (xs.drop k ++ xs.take k) ∧ Kept (Only c) (w.alloc (.cells #[.chan (some c)] 38)) wr)
    (fun i _ wr => xs.length - (intOf i).toNat)
  case atStart =>
    have hk := (Kept.refl No w).alloc (.cells #[.chan (some c)] 38)
    exact ⟨0, by omega, rfl, by simpa [vals] using Seg.nil _ _ _ _, by simpa using h0.kept hk id, Kept.refl _ _⟩
  case round =>
    obtain ⟨k, hk, rfl, hs, hch, hkp⟩ := hrel
    have hcell : wr.cell? ⟨w.heap.size, 0, .none⟩ = some (.chan (some c)) := by
      rw [hkp.cell (by simp) (by simp [Only]; omega)]; simp
    have hsz := hkp.size
    rw [World.size_alloc] at hsz
    by_cases hlt : k < xs.length
    · rw [rot_head xs k hlt] at hch
      have hx : (xs.drop (k + 1) ++ xs.take k).length < cap := by simp; omega
      have ht := Lib.hid (rot_next xs k hlt)
      have htk := Lib.hid (take_next xs k hlt)
      generalize xs[k] = x at *
      clear hlen h0 h2
      go_wp2_with fail
      refine (take_some c cap _ x _ hch).mono ?_
      rintro e w1 ⟨rfl, hch1, hk1⟩
      have hcell1 : w1.cell? ⟨w.heap.size, 0, .none⟩ = some (.chan (some c)) := by
        rw [hk1.cell (p := ⟨w.heap.size, 0, .none⟩) hsz (by simp [Only]; omega)]; exact hcell
      have hs1 := hs.kept hk1 (fun g hg => by have := hs.lt g hg; simp [Only]; omega)
      have hsz1 := Nat.lt_of_lt_of_le hsz hk1.size
      clear hcell hch hs
      go_wp2_with fail
      refine (put_room c cap _ x _ hch1 hx).mono ?_
      rintro e w2 ⟨rfl, hch2, hk2⟩
      have hs2 := hs1.kept hk2 (fun g hg => by have := hs1.lt g hg; simp [Only]; omega)
      have hsz2 := Nat.lt_of_lt_of_le hsz1 hk2.size
      clear hcell1 hch1 hs1
      go_wp2_with (at_builtin; refine wpList_append_seg rfl _ _ 27 rfl (w.heap.size + 1) 3 i0 (.int .i64 0) 1 8 Try.underlying27 hi hz0 hz1 hz2 rfl (by decide) _ _ _ rfl (hs2.kept ((Kept.refl No _).alloc _) (fun _ _ f => f.elim)) ⟨_, 0, none⟩ 1 1 [.int .i64 x] rfl rfl ?c1 ?c2 ?c3 ?c4 ?c5 ?_)
      case c1 => exact cell_one _ _ _
      case c2 => exact one_int _ _
      case c3 => unfold maxLen; omega
      case c4 => omega
      case c5 => simp; omega
      intro v3 w3 hs3 hg3 _
      have hK2 : Kept (Only c) (w.alloc (.cells #[.chan (some c)] 38)) w2 := (hkp.trans hk1 (fun _ _ h => h)).trans hk2 (fun _ _ h => h)
      have hK3 := (hK2.alloc (.cells #[.int .i64 x] 3)).grown hg3 (fun g hlt hg => by have := (hs2.lt g hg).1; simp at hlt; omega)
      have hch3 : Ch w3 c cap (xs.drop (k + 1) ++ xs.take (k + 1)) := by
        rw [← ht.out]
        exact (hch2.kept ((Kept.refl No w2).alloc _) id).of_block (hg3.block c (by have := hch2.lt; simp; omega) (fun hg => by have := (hs2.lt c hg.symm).1; omega))
      clear hch2 hs2 hk1 hk2 hK2 hg3 hkp
      go_wp2_with fail
      go_roundw
      case rel => exact ⟨k + 1, by omega, by go_num, by rw [htk.out]; exact hs3, hch3, hK3⟩
      case measure => simp [intOf]; omega
    · obtain rfl : k = xs.length := by omega
      rw [List.drop_length, List.take_length] at hch
      rw [List.take_length] at hs
      clear hlen h0 h2
      go_wp2_with fail
      go_ret
      exact ⟨_, rfl, hs.mono (by omega), hch, (((Kept.refl No w).alloc _).mono (fun _ _ f => f.elim)).trans hkp (fun _ _ h => h)⟩
end Go.Proofs.Ytelpplfjcoeghaa.Pipe
