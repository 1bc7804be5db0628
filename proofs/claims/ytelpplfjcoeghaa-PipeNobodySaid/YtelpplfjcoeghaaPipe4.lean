/-
  The walk of run, the statements' own helper over package pipe: one call on a pipe and on a list: they answer alike.
-/
import Derived.Test.YtelpplfjcoeghaaPipe3
set_option linter.unusedVariables false
namespace Go.Proofs.Ytelpplfjcoeghaa.Pipe
open Go.RowKit Go.Conc Go.Proofs.Ytelpplfjcoeghaa.Chan Go.Proofs.Ytelpplfjcoeghaa.Own

def step (cap : Nat) (xs : List Int) (kind n : Int) : List Int :=
  if kind = 1 then xs.tail else if kind = 2 then xs else if xs.length < cap then xs ++ [n] else xs
theorem step_len (cap : Nat) (xs : List Int) (kind n : Int) (h : xs.length ≤ cap) : (step cap xs kind n).length ≤ cap := by
  unfold step
  split
  · simp; omega
  · split
    · exact h
    · split
      · simp; omega
      · exact h

def RunPost (w : World) (B b c cap : Nat) (ys : List Int) (v : Value) (e : Ending) (w' : World) : Prop :=
  ∃ v', e = .returned (.tuple #[v', .bool true]) ∧ Pt w' b c cap ys ∧ Seg w' B 3 1 v' ys.length (vals ys) ∧ Kept (Two c v) w w' ∧ ∀ g, v'.ownBlock = some g → v.ownBlock = some g ∨ w.heap.size ≤ g

theorem two_of_only {c : Nat} {v : Value} : ∀ k, Only c k → Two c v k := fun _ h => .inl h

set_option maxHeartbeats 1000000 in
theorem run_take_none (B b c cap : Nat) (v : Value) (n : Int) (w : World) (h : Pt w b c cap []) (hv : Seg w B 3 1 v 0 []) (hvc : ∀ g, v.ownBlock = some g → ¬ Only c g) :
    Calls Try.prog 9 #[.pointer (some ⟨b, 0, .none⟩), v, .int .i64 cap, .agg #[.int .i64 1, .int .i64 n]] w (RunPost w B b c cap [] v) := by
  have hv0 := hv
  obtain ⟨_, ao, ca, rfl, hca, hma, _, _⟩ := hv.rd
  unfold maxLen at hma
  have hA := (Kept.refl No w).alloc (.cells #[.int .i64 1, .int .i64 n] 31)
  have hp := h.kept hA id id
  go_enter Try.func9, Try.ntmps9
  go_wp2_with fail
  refine (take_no b c cap _ hp).mono ?_
  rintro e w1 ⟨rfl, hp1, hk1⟩
  go_wp2_with fail
  go_ret2
  have hK : Kept (Only c) w w1 := (hA.mono (fun _ _ f => f.elim)).trans hk1 (fun _ _ h => h)
  exact ⟨_, rfl, hp1, hv0.kept hK hvc, hK.mono (fun k _ h => two_of_only k h), fun g hg => .inl hg⟩

set_option maxHeartbeats 1000000 in
theorem run_take_some (B b c cap : Nat) (v : Value) (x : Int) (xs : List Int) (n : Int) (w : World) (h : Pt w b c cap (x :: xs)) (hv : Seg w B 3 1 v (x :: xs).length (vals (x :: xs))) (hvc : ∀ g, v.ownBlock = some g → ¬ Only c g) :
    Calls Try.prog 9 #[.pointer (some ⟨b, 0, .none⟩), v, .int .i64 cap, .agg #[.int .i64 1, .int .i64 n]] w (RunPost w B b c cap xs v) := by
  have hv0 := hv
  obtain ⟨_, ⟨_, hh⟩ | ⟨g, o, ca, cur, rfl, hB, hg, hle, hmax, hcs, hx⟩⟩ := hv
  · simp at hh
  have hgc : g ≠ c := fun e => hvc g rfl e
  unfold maxLen at hmax
  have hA := (Kept.refl No w).alloc (.cells #[.int .i64 1, .int .i64 n] 31)
  have hp := h.kept hA id id
  have hn : (x :: xs).length = xs.length + 1 := rfl
  rw [hn] at hle hx ⊢
  have hcell0 : w.cell? ⟨g, o, none⟩ = some (.int .i64 x) := by
    have := hx 0 (by omega)
    simp [vals] at this
    simp [World.cell?, hg, this]
  have hglt : g < w.heap.size := (Array.getElem?_eq_some_iff.1 hg).1
  have hxt : ∀ j, j < xs.length * 1 → cur[o + 1 + j]? = (vals xs)[j]? := by
    intro j hj
    have := hx (j + 1) (by omega)
    rw [show o + (j + 1) = o + 1 + j by omega] at this
    rw [this, vals_cons, List.getElem?_cons_succ]
  have hgw : ∀ w1, Kept (Only c) w w1 → w1.heap[g]? = some (.cells cur 3 (0, 0)) := fun w1 hk => (hk.block g hglt hgc).trans hg
  have Hxt := Lib.hid hxt
  have Hgw := Lib.hid hgw
  clear hxt hgw hx
  by_cases h1 : ca = 1
  · subst h1
    obtain rfl : xs = [] := List.eq_nil_of_length_eq_zero (by omega)
    go_enter Try.func9, Try.ntmps9
    go_wp2_with fail
    refine (take_yes b c cap [] x _ hp).mono ?_
    rintro e w1 ⟨rfl, hp1, hk1⟩
    have hK : Kept (Only c) w w1 := (hA.mono (fun _ _ f => f.elim)).trans hk1 (fun _ _ h => h)
    have hcell1 : w1.cell? ⟨g, o, none⟩ = some (.int .i64 x) := by
      rw [hK.cell (p := ⟨g, o, none⟩) hglt hgc]; exact hcell0
    clear hcell0 hp h
    go_wp2_with fail
    go_quiet (fail)
    go_wp2
    go_ret2
    exact ⟨_, rfl, hp1, ⟨rfl, .inr ⟨g, _, 0, cur, rfl, hB, Hgw.out _ (hK.drewN nq), by simp, by simp [maxLen], by omega, fun j hj => by simp at hj⟩⟩, (hK.drewN nq).mono (fun k _ h => two_of_only k h), fun g' hg' => .inl hg'⟩
  · go_enter Try.func9, Try.ntmps9
    go_wp2_with fail
    refine (take_yes b c cap xs x _ hp).mono ?_
    rintro e w1 ⟨rfl, hp1, hk1⟩
    have hK : Kept (Only c) w w1 := (hA.mono (fun _ _ f => f.elim)).trans hk1 (fun _ _ h => h)
    have hcell1 : w1.cell? ⟨g, o, none⟩ = some (.int .i64 x) := by
      rw [hK.cell (p := ⟨g, o, none⟩) hglt hgc]; exact hcell0
    clear hcell0 hp h
    go_wp2_with fail
    go_quiet (fail)
    go_wp2
    go_ret2
    exact ⟨_, rfl, hp1, ⟨by simp [vals], .inr ⟨g, o + 1, ca - 1, cur, rfl, hB, Hgw.out _ (hK.drewN nq), by omega, by unfold maxLen; omega, by omega, Hxt.out⟩⟩, (hK.drewN nq).mono (fun k _ h => two_of_only k h), fun g' hg' => .inl hg'⟩

set_option maxHeartbeats 1000000 in
theorem run_all (B b c cap : Nat) (v : Value) (xs : List Int) (n : Int) (w : World) (h : Pt w b c cap xs) (hv : Seg w B 3 1 v xs.length (vals xs)) (hvc : ∀ g, v.ownBlock = some g → ¬ Only c g) (hc : xs.length ≤ cap) (hm : cap ≤ 256) :
    Calls Try.prog 9 #[.pointer (some ⟨b, 0, .none⟩), v, .int .i64 cap, .agg #[.int .i64 2, .int .i64 n]] w (RunPost w B b c cap xs v) := by
  have hA := (Kept.refl No w).alloc (.cells #[.int .i64 2, .int .i64 n] 31)
  have hp := h.kept hA id id
  have hva := hv.kept hA (fun _ _ => id)
  go_enter Try.func9, Try.ntmps9
  go_wp2_with fail
  refine (told_is b c cap xs v _ hp hva.rd hvc hc hm).mono ?_
  rintro e w1 ⟨rfl, hp1, hk1⟩
  have hK : Kept (Only c) w w1 := (hA.mono (fun _ _ f => f.elim)).trans hk1 (fun _ _ h => h)
  go_wp2_with fail
  go_ret2
  exact ⟨_, rfl, hp1, hv.kept hK hvc, hK.mono (fun k _ h => two_of_only k h), fun g hg => .inl hg⟩

set_option maxHeartbeats 1000000 in
theorem run_put_full (B b c cap : Nat) (v : Value) (xs : List Int) (kind n : Int) (w : World) (h : Pt w b c cap xs) (hv : Seg w B 3 1 v xs.length (vals xs)) (hvc : ∀ g, v.ownBlock = some g → ¬ Only c g) (hc : xs.length ≤ cap) (hm : cap ≤ 256)
    (k1 : (kind == 1) = false) (k2 : (kind == 2) = false) (hf : ¬ xs.length < cap) :
    Calls Try.prog 9 #[.pointer (some ⟨b, 0, .none⟩), v, .int .i64 cap, .agg #[.int .i64 kind, .int .i64 n]] w (RunPost w B b c cap xs v) := by
  have hv0 := hv
  obtain ⟨_, ao, ca, rfl, hca, hma, _, _⟩ := hv.rd
  unfold maxLen at hma
  have hA := (Kept.refl No w).alloc (.cells #[.int .i64 kind, .int .i64 n] 31)
  have hp := h.kept hA id id
  go_enter Try.func9, Try.ntmps9
  go_wp2_with fail
  refine (put_no b c cap xs n _ hp (by omega)).mono ?_
  rintro e w1 ⟨rfl, hp1, hk1⟩
  have hK : Kept (Only c) w w1 := (hA.mono (fun _ _ f => f.elim)).trans hk1 (fun _ _ h => h)
  go_wp2_with fail
  go_ret2
  exact ⟨_, rfl, hp1, hv0.kept hK hvc, hK.mono (fun k _ h => two_of_only k h), fun g hg => .inl hg⟩

set_option maxHeartbeats 1000000 in
theorem run_put_room (B b c cap : Nat) (v : Value) (xs : List Int) (kind n : Int) (w : World) (hBw : B ≤ w.heap.size) (h : Pt w b c cap xs) (hv : Seg w B 3 1 v xs.length (vals xs)) (hvc : ∀ g, v.ownBlock = some g → ¬ Only c g) (hvb : ∀ g, v.ownBlock = some g → g ≠ b) (hm : cap ≤ 256)
    (k1 : (kind == 1) = false) (k2 : (kind == 2) = false) (hf : xs.length < cap) :
    Calls Try.prog 9 #[.pointer (some ⟨b, 0, .none⟩), v, .int .i64 cap, .agg #[.int .i64 kind, .int .i64 n]] w (RunPost w B b c cap (xs ++ [n]) v) := by
  have hv0 := hv
  obtain ⟨i0, hi, hz0, hz1, hz2⟩ := info_parts info_int
  obtain ⟨_, ao, ca, rfl, hca, hma, _, _⟩ := hv.rd
  unfold maxLen at hma
  have hA := (Kept.refl No w).alloc (.cells #[.int .i64 kind, .int .i64 n] 31)
  have hp := h.kept hA id id
  have hcell : (w.alloc (.cells #[.int .i64 kind, .int .i64 n] 31)).cell? ⟨w.heap.size, 1, none⟩ = some (.int .i64 n) := by simp
  go_enter Try.func9, Try.ntmps9
  go_wp2_with fail
  refine (put_yes b c cap xs n _ hp hf).mono ?_
  rintro e w1 ⟨rfl, hp1, hk1⟩
  have hK : Kept (Only c) w w1 := (hA.mono (fun _ _ f => f.elim)).trans hk1 (fun _ _ h => h)
  have hv1 := hv0.kept hK hvc
  have hcl : c < w.heap.size := h.2.1.lt
  have hcell1 : w1.cell? ⟨w.heap.size, 1, none⟩ = some (.int .i64 n) := by
    rw [hk1.cell (p := ⟨w.heap.size, 1, none⟩) (by simp) (by simp [Only]; omega)]; exact hcell
  have hsz := hk1.size
  rw [World.size_alloc] at hsz
  clear hp h hcell
  go_wp2_with (at_builtin; refine wpList_append_seg rfl _ _ 27 rfl B 3 i0 (.int .i64 0) 1 8 Try.underlying27 hi hz0 hz1 hz2 rfl (by decide) _ _ _ rfl (hv1.kept ((Kept.refl No _).alloc _) (fun _ _ f => f.elim)) ⟨_, 0, none⟩ 1 1 [.int .i64 n] rfl rfl ?c1 ?c2 ?c3 ?c4 ?c5 ?_)
  case c1 => exact cell_one _ _ _
  case c2 => exact one_int _ _
  case c3 => unfold maxLen; omega
  case c4 => omega
  case c5 => simp; omega
  intro v3 w3 hs3 hg3 hb3
  have hK3 : Kept (Two c (.slice ao xs.length ca)) w w3 := ((hK.alloc _).mono (fun k _ h => two_of_only k h)).grown hg3 (fun g _ hg => .inr hg)
  have hp3 : Pt w3 b c cap (xs ++ [n]) := by
    have h1 := hp1.kept ((Kept.refl No w1).alloc (.cells #[.int .i64 n] 3)) id id
    have hgk := (Kept.refl (fun k => (Value.slice ao xs.length ca).ownBlock = some k) (w1.alloc (.cells #[.int .i64 n] 3))).grown hg3 (fun k _ hk => hk)
    exact h1.kept hgk (fun hb => hvb b hb rfl) (fun hc' => hvc c hc' rfl)
  clear hp1 hv1 hg3 hk1
  go_wp2_with fail
  go_ret2
  refine ⟨_, rfl, hp3, ?_, hK3, fun g hg => ?_⟩
  · rw [vals_app, List.length_append]; exact hs3
  · rcases hb3 g hg with h | h
    · exact .inl h
    · exact .inr (by first | omega | (simp at h; omega))
end Go.Proofs.Ytelpplfjcoeghaa.Pipe
