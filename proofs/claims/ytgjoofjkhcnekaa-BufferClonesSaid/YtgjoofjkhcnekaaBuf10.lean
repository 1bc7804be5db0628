/-
  run and told over a buffer and a list that stand alike; two such pairs, apart; the cells of one call in the list of calls.
-/
import Derived.Test.YtgjoofjkhcnekaaBuf9
set_option linter.unusedVariables false
namespace Go.Proofs.Ytgjoofjkhcnekaa.Buf
open Go.RowKit Go.Conc Go.Proofs.Ytgjoofjkhcnekaa.Chan Go.Proofs.Ytgjoofjkhcnekaa.Own

/-- A buffer and a list stand alike, apart from one another. -/
structure Inv (w : World) (B b c cap : Nat) (xs : List Ent) (v : Value) : Prop where
  pt : Pt w b c cap xs
  seg : Seg w B 35 8 v xs.length (ecs xs)
  apart : ∀ g, v.ownBlock = some g → g ≠ b ∧ g ≠ c
  le : xs.length ≤ cap
theorem Inv.kept {S : Nat → Prop} {w w' : World} {B b c cap : Nat} {xs : List Ent} {v : Value} (h : Inv w B b c cap xs v) (hk : Kept S w w') (hb : ¬ S b) (hc : ¬ S c) (hv : ∀ g, v.ownBlock = some g → ¬ S g) : Inv w' B b c cap xs v :=
  ⟨h.pt.kept hk hb hc, h.seg.kept hk hv, h.apart, h.le⟩
theorem Inv.drew {w : World} {B b c cap : Nat} {xs : List Ent} {v : Value} (h : Inv w B b c cap xs v) : Inv w.drew B b c cap xs v :=
  h.kept (S := No) (Kept.refl No w).drew id id (fun _ _ => id)

def RunIs (w : World) (B b c cap : Nat) (ys : List Ent) (v : Value) (e : Ending) (w' : World) : Prop :=
  ∃ v', e = .returned (.tuple #[v', .bool true]) ∧ Inv w' B b c cap ys v' ∧ Kept (Two c v) w w' ∧ ∀ g, v'.ownBlock = some g → v.ownBlock = some g ∨ w.heap.size ≤ g
theorem run_post {w : World} {B b c cap : Nat} {xs ys : List Ent} {v : Value} (h : Inv w B b c cap xs v) (hy : ys.length ≤ cap) (e : Ending) (w' : World) (hp : RunPost w B b c cap ys v e w') : RunIs w B b c cap ys v e w' := by
  obtain ⟨v', he, hpt, hs, hk, ho⟩ := hp
  refine ⟨v', he, ⟨hpt, hs, fun g hg => ?_, hy⟩, hk, ho⟩
  rcases ho g hg with h1 | h1
  · exact h.apart g h1
  · have := h.pt.2.1.lt
    have := h.pt.2.2.1
    omega
theorem run_is (B b c cap : Nat) (v : Value) (xs : List Ent) (kind : Int) (x : Ent) (w : World) (hB : B ≤ w.heap.size) (h : Inv w B b c cap xs v) (hm : cap ≤ 4) :
    Calls Try.prog 9 #[.pointer (some ⟨b, 0, .none⟩), v, .int .i64 cap, opv kind x] w (RunIs w B b c cap (step cap xs kind x) v) := by
  have hl := step_len cap xs kind x h.le
  have hvc : ∀ g, v.ownBlock = some g → ¬ Only c g := fun g hg => (h.apart g hg).2
  refine Calls.mono ?_ (run_post h hl)
  by_cases h1 : kind = 1
  · subst h1
    cases xs with
    | nil => exact run_pop_none B b c cap v x w h.pt h.seg hvc
    | cons y xs => exact run_pop_some B b c cap v y xs x w h.pt h.seg hvc
  · by_cases h3 : xs.length < cap
    · have e : step cap xs kind x = xs ++ [x] := by simp [step, h1, h3]
      rw [e]
      exact run_push_room B b c cap v xs kind x w hB h.pt h.seg hvc (fun g hg => (h.apart g hg).1) hm (beq_eq_false_iff_ne.2 h1) (by rw [bne_iff_ne]; exact h1) h3
    · have e : step cap xs kind x = xs := by simp [step, h1, h3]
      rw [e]
      exact run_push_full B b c cap v xs kind x w h.pt h.seg hvc h.le hm (beq_eq_false_iff_ne.2 h1) (by rw [bne_iff_ne]; exact h1) h3
theorem told_inv (B b c cap : Nat) (xs : List Ent) (v : Value) (pk pi pj gen : Int) (w : World) (h : Inv w B b c cap xs v) (hm : cap ≤ 4) :
    Calls Try.prog 10 #[.pointer (some ⟨b, 0, .none⟩), v, .int .i64 cap, .agg #[.int .i64 pk, .int .i64 pi, .int .i64 pj], .int .i64 gen] w fun e w' => e = .returned (.bool true) ∧ Inv w' B b c cap xs v ∧ Kept (Only c) w w' := by
  have hvc : ∀ g, v.ownBlock = some g → ¬ Only c g := fun g hg => (h.apart g hg).2
  refine (told_is b c cap xs v pk pi pj gen w h.pt h.seg.rd hvc h.le hm).mono ?_
  rintro e w' ⟨rfl, hp, hk⟩
  exact ⟨rfl, ⟨hp, h.seg.kept hk hvc, h.apart, h.le⟩, hk⟩

/-- Two buffers with their lists, apart from one another. -/
structure Both (w : World) (B cap b c : Nat) (xs : List Ent) (v : Value) (b' c' : Nat) (ys : List Ent) (u : Value) : Prop where
  one : Inv w B b c cap xs v
  two : Inv w B b' c' cap ys u
  v1 : ∀ g, v.ownBlock = some g → g ≠ b' ∧ g ≠ c' ∧ u.ownBlock ≠ some g
  u1 : ∀ g, u.ownBlock = some g → g ≠ b ∧ g ≠ c
  cs : c ≠ b' ∧ c ≠ c' ∧ c' ≠ b
theorem both_one {w w' : World} {B cap b c b' c' : Nat} {xs xs' ys : List Ent} {v v' u : Value} (h : Both w B cap b c xs v b' c' ys u) (h1 : Inv w' B b c cap xs' v') (hk : Kept (Two c v) w w') (ho : ∀ g, v'.ownBlock = some g → v.ownBlock = some g ∨ w.heap.size ≤ g) :
    Both w' B cap b c xs' v' b' c' ys u := by
  refine ⟨h1, h.two.kept hk ?_ ?_ ?_, fun g hg => ?_, h.u1, h.cs⟩
  · rintro (e | e)
    · exact h.cs.1 e.symm
    · exact (h.v1 _ e).1 rfl
  · rintro (e | e)
    · exact h.cs.2.1 e.symm
    · exact (h.v1 _ e).2.1 rfl
  · rintro g hg (e | e)
    · exact (h.u1 g hg).2 e
    · exact (h.v1 g e).2.2 hg
  · rcases ho g hg with e | e
    · exact h.v1 g e
    · have a1 := h.two.pt.2.2.1
      have a2 := h.two.pt.2.1.lt
      refine ⟨by omega, by omega, fun hu => ?_⟩
      have := h.two.seg.lt g hu
      omega
theorem both_swap {w : World} {B cap b c b' c' : Nat} {xs ys : List Ent} {v u : Value} (h : Both w B cap b c xs v b' c' ys u) : Both w B cap b' c' ys u b c xs v :=
  ⟨h.two, h.one, fun g hg => ⟨(h.u1 g hg).1, (h.u1 g hg).2, fun hv => (h.v1 g hv).2.2 hg⟩, fun g hg => ⟨(h.v1 g hg).1, (h.v1 g hg).2.1⟩, ⟨h.cs.2.2, fun e => h.cs.2.1 e.symm, h.cs.1⟩⟩

/-- The cells of call k. -/
theorem cells_at {w wr : World} {ln lc : Nat} {ao : Option Addr} {zs : List Int} (hr : Rd w 9 (.slice ao ln lc) ln (vals zs)) (hK : Kept No w wr) (k : Nat) (hk : k < ln) :
    ∃ g o kind n0 n1 n2 n3 n4 n5 n6 n7, ao = some ⟨g, o, none⟩ ∧ wr.cell? ⟨g, o + k * 9, none⟩ = some (.int .i64 kind) ∧
      wr.cell? ⟨g, o + k * 9 + 1, none⟩ = some (.int .i64 n0) ∧ wr.cell? ⟨g, o + k * 9 + 2, none⟩ = some (.int .i64 n1) ∧ wr.cell? ⟨g, o + k * 9 + 3, none⟩ = some (.int .i64 n2) ∧ wr.cell? ⟨g, o + k * 9 + 4, none⟩ = some (.int .i64 n3) ∧
      wr.cell? ⟨g, o + k * 9 + 5, none⟩ = some (.int .i64 n4) ∧ wr.cell? ⟨g, o + k * 9 + 6, none⟩ = some (.int .i64 n5) ∧ wr.cell? ⟨g, o + k * 9 + 7, none⟩ = some (.int .i64 n6) ∧ wr.cell? ⟨g, o + k * 9 + 8, none⟩ = some (.int .i64 n7) := by
  obtain ⟨hzl, ao', lc', hv, hca, hma, hnone, hR⟩ := hr
  cases hv
  rw [vals_len] at hzl
  obtain ⟨g, o, rfl, hgl, hcells⟩ := hR (by omega)
  have h : ∀ i (hi : i < 9), wr.cell? ⟨g, o + k * 9 + i, none⟩ = some (.int .i64 (zs[k * 9 + i]'(by omega))) := fun i hi => by
    rw [hK.cell (p := ⟨g, o + k * 9 + i, none⟩) hgl id, Nat.add_assoc]
    exact hcells (k * 9 + i) _ (by simp [vals])
  exact ⟨g, o, _, _, _, _, _, _, _, _, _, rfl, h 0 (by omega), h 1 (by omega), h 2 (by omega), h 3 (by omega), h 4 (by omega), h 5 (by omega), h 6 (by omega), h 7 (by omega), h 8 (by omega)⟩
theorem rd_lt {w : World} {ln lc g o : Nat} {zs : List Int} (hr : Rd w 9 (.slice (some ⟨g, o, none⟩) ln lc) ln (vals zs)) (h : 0 < ln) : g < w.heap.size := by
  obtain ⟨_, ao', lc', hv, _, _, _, hR⟩ := hr
  cases hv
  obtain ⟨g', o', e, h1, _⟩ := hR h
  cases e
  exact h1
theorem cell_kept {w wr wr' : World} {g j : Nat} {v : Value} (hg : g < w.heap.size) (h : Kept No w wr) (h' : Kept No w wr') (c : wr.cell? ⟨g, j, none⟩ = some v) : wr'.cell? ⟨g, j, none⟩ = some v := by
  rw [h'.cell (p := ⟨g, j, none⟩) hg id, ← h.cell (p := ⟨g, j, none⟩) hg id]
  exact c
end Go.Proofs.Ytgjoofjkhcnekaa.Buf
