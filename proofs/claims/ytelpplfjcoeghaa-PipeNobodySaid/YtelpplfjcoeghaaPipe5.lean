/-
  run over any call; Clone; alive: the statements' helpers over package pipe, joined.
-/
import Derived.Test.YtelpplfjcoeghaaPipe4
set_option linter.unusedVariables false
namespace Go.Proofs.Ytelpplfjcoeghaa.Pipe
open Go.RowKit Go.Conc Go.Proofs.Ytelpplfjcoeghaa.Chan Go.Proofs.Ytelpplfjcoeghaa.Own

/-- A pipe and a list stand alike, apart from one another. -/
structure Inv (w : World) (B b c cap : Nat) (xs : List Int) (v : Value) : Prop where
  pt : Pt w b c cap xs
  seg : Seg w B 3 1 v xs.length (vals xs)
  apart : ∀ g, v.ownBlock = some g → g ≠ b ∧ g ≠ c
  le : xs.length ≤ cap

theorem Inv.kept {S : Nat → Prop} {w w' : World} {B b c cap : Nat} {xs : List Int} {v : Value} (h : Inv w B b c cap xs v) (hk : Kept S w w') (hb : ¬ S b) (hc : ¬ S c) (hv : ∀ g, v.ownBlock = some g → ¬ S g) : Inv w' B b c cap xs v :=
  ⟨h.pt.kept hk hb hc, h.seg.kept hk hv, h.apart, h.le⟩

def RunIs (w : World) (B b c cap : Nat) (ys : List Int) (v : Value) (e : Ending) (w' : World) : Prop :=
  ∃ v', e = .returned (.tuple #[v', .bool true]) ∧ Inv w' B b c cap ys v' ∧ Kept (Two c v) w w' ∧ ∀ g, v'.ownBlock = some g → v.ownBlock = some g ∨ w.heap.size ≤ g

theorem run_post {w : World} {B b c cap : Nat} {xs ys : List Int} {v : Value} (h : Inv w B b c cap xs v) (hy : ys.length ≤ cap) (e : Ending) (w' : World) (hp : RunPost w B b c cap ys v e w') : RunIs w B b c cap ys v e w' := by
  obtain ⟨v', he, hpt, hs, hk, ho⟩ := hp
  refine ⟨v', he, ⟨hpt, hs, fun g hg => ?_, hy⟩, hk, ho⟩
  rcases ho g hg with h1 | h1
  · exact h.apart g h1
  · have := h.pt.2.1.lt
    have := h.pt.2.2.1
    omega

theorem run_is (B b c cap : Nat) (v : Value) (xs : List Int) (kind n : Int) (w : World) (hB : B ≤ w.heap.size) (h : Inv w B b c cap xs v) (hm : cap ≤ 256) :
    Calls Try.prog 9 #[.pointer (some ⟨b, 0, .none⟩), v, .int .i64 cap, .agg #[.int .i64 kind, .int .i64 n]] w (RunIs w B b c cap (step cap xs kind n) v) := by
  have hl := step_len cap xs kind n h.le
  have hvc : ∀ g, v.ownBlock = some g → ¬ Only c g := fun g hg => (h.apart g hg).2
  refine Calls.mono ?_ (run_post h hl)
  by_cases h1 : kind = 1
  · subst h1
    cases xs with
    | nil => exact run_take_none B b c cap v n w h.pt h.seg hvc
    | cons x xs => exact run_take_some B b c cap v x xs n w h.pt h.seg hvc
  · by_cases h2 : kind = 2
    · subst h2
      exact run_all B b c cap v xs n w h.pt h.seg hvc h.le hm
    · by_cases h3 : xs.length < cap
      · have e : step cap xs kind n = xs ++ [n] := by simp [step, h1, h2, h3]
        rw [e]
        exact run_put_room B b c cap v xs kind n w hB h.pt h.seg hvc (fun g hg => (h.apart g hg).1) hm (beq_eq_false_iff_ne.2 h1) (beq_eq_false_iff_ne.2 h2) h3
      · have e : step cap xs kind n = xs := by simp [step, h1, h2, h3]
        rw [e]
        exact run_put_full B b c cap v xs kind n w h.pt h.seg hvc h.le hm (beq_eq_false_iff_ne.2 h1) (beq_eq_false_iff_ne.2 h2) h3

theorem told_inv (B b c cap : Nat) (xs : List Int) (v : Value) (w : World) (h : Inv w B b c cap xs v) (hm : cap ≤ 256) :
    Calls Try.prog 10 #[.pointer (some ⟨b, 0, .none⟩), v, .int .i64 cap] w fun e w' => e = .returned (.bool true) ∧ Inv w' B b c cap xs v ∧ Kept (Only c) w w' := by
  have hvc : ∀ g, v.ownBlock = some g → ¬ Only c g := fun g hg => (h.apart g hg).2
  refine (told_is b c cap xs v w h.pt h.seg.rd hvc h.le hm).mono ?_
  rintro e w' ⟨rfl, hp, hk⟩
  exact ⟨rfl, ⟨hp, h.seg.kept hk hvc, h.apart, h.le⟩, hk⟩

def ClonePost (w : World) (b c cap : Nat) (xs : List Int) (e : Ending) (w' : World) : Prop :=
  ∃ b' c', e = .returned (.pointer (some ⟨b', 0, .none⟩)) ∧ Pt w' b' c' cap xs ∧ Pt w' b c cap xs ∧ w.heap.size ≤ b' ∧ w.heap.size ≤ c' ∧ Kept (Only c) w w'

set_option maxHeartbeats 1000000 in
theorem clone_some (b c cap : Nat) (xs : List Int) (w : World) (h : Pt w b c cap xs) (hc : xs.length ≤ cap) (hm : cap ≤ 256) :
    Calls Try.prog 11 #[.pointer (some ⟨b, 0, .none⟩)] w (ClonePost w b c cap xs) := by
  have h1 := h.1
  have hcap := run_cap w c cap xs h.2.1
  go_enter Try.func11, Try.ntmps11
  go_wp2_with fail
  refine (none_some _ _ _ h1).mono ?_
  rintro e w' ⟨rfl, rfl⟩
  go_wp2_with fail
  refine (new_is cap cap _ (by simp [near]; omega)).mono ?_
  rintro e w1 ⟨b', c', rfl, hp1, hc1, hb1, hk1⟩
  have hq1 := h.kept hk1 id id
  clear hcap h1
  go_wp2_with fail
  refine (all_some b c cap xs _ hq1 hc hm).mono ?_
  rintro e w2 ⟨v, rfl, hs2, hch2, hk2⟩
  have hcl := h.2.1.lt
  have hbl := h.2.2.1
  have hp2 := hp1.kept hk2 (by simp [Only]; omega) (by simp [Only]; omega)
  have hq2 := hq1.next hk2 hch2
  have hb2 := hp1.2.2.1
  have hc2 := hp1.2.1.lt
  have hK2 : Kept (Only c) w' w2 := (hk1.mono (fun _ _ f => f.elim)).trans hk2 (fun _ _ h => h)
  have hvb : ∀ g, v.ownBlock = some g → w1.heap.size ≤ g := fun g hg => (hs2.lt g hg).1
  obtain ⟨_, ao, ca, rfl, hca, hma, hnone, hR⟩ := hs2.rd
  unfold maxLen at hma
  clear hk1 hk2 hs2 hch2 hq1 hp1
  generalize hn : xs.length = n at *
  have Hn := Lib.hid hn
  clear hn
  rcases Nat.eq_zero_or_pos n with h0 | h0
  · subst h0
    obtain rfl : xs = [] := List.eq_nil_of_length_eq_zero Hn.out
    clear hR
    go_wp2_with fail
    go_loopw [18] (fun i wr => i = .int .i64 0 ∧ wr = w2) (fun i wr => 0)
    case atStart => exact ⟨rfl, rfl⟩
    case round =>
      obtain ⟨rfl, rfl⟩ := hrel
      go_wp2
      go_ret
      exact ⟨b', c', rfl, hp2, hq2, by omega, by omega, hK2⟩
  · obtain ⟨g, o, rfl, hgl, hR1⟩ := hR h0
    have hgb := hvb g rfl
    clear hR hvb hnone
    have HR := Lib.hid hR1
    clear hR1
    go_wp2_with fail
    go_loopw [18] (fun i wr => ∃ k : Nat, k ≤ n ∧ i = .int .i64 k ∧ Pt wr b' c' cap (xs.take k) ∧ Kept (Only c') w2 wr) (fun i wr => n - (intOf i).toNat)
    case atStart => exact ⟨0, by omega, rfl, by simpa using hp2, Kept.refl _ _⟩
    case round =>
      obtain ⟨k, hk, rfl, hp, hkk⟩ := hrel
      by_cases hlt : k < n
      · have hx : k < xs.length := by rw [Hn.out]; exact hlt
        have hcell : wr.cell? ⟨g, o + k, none⟩ = some (.int .i64 xs[k]) := by
          rw [hkk.cell (p := ⟨g, o + k, none⟩) hgl (by simp [Only]; omega)]
          exact HR.out k _ (by simp [vals, hx])
        have htk := Lib.hid (show xs.take k ++ [xs[k]] = xs.take (k + 1) by rw [List.take_succ_eq_append_getElem hx])
        have hlen : (xs.take k).length < cap := by simp; omega
        generalize xs[k] = x at *
        clear hx
        go_wp2_with fail
        refine (put_yes b' c' cap _ x _ hp hlen).mono ?_
        rintro e w3 ⟨rfl, hp3, hk3⟩
        go_wp2_with fail
        go_roundw
        case rel => exact ⟨k + 1, by omega, by go_num, by rw [← htk.out]; exact hp3, hkk.trans hk3 (fun _ _ h => h)⟩
        case measure => simp [intOf]; omega
      · obtain rfl : k = n := by omega
        rw [List.take_of_length_le (by rw [Hn.out]; omega)] at hp
        go_wp2_with fail
        go_ret
        exact ⟨b', c', rfl, hp, hq2.kept hkk (by simp [Only]; omega) (by simp [Only]; omega), by omega, by omega, hK2.trans (T := Only c') hkk (fun k hk h => by simp [Only] at h; omega)⟩

theorem alive_is (w : World) : Calls Try.prog 6 #[] w fun e w' => e = .returned (.bool true) ∧ Kept No w w' := by
  go_enter Try.func6, Try.ntmps6
  go_wp2_with fail
  refine (new_is 1 1 _ (by simp [near])).mono ?_
  rintro e w1 ⟨b, c, rfl, p1, hc, hb, k1⟩
  go_wp2_with fail
  refine (put_yes b c 1 [] 7 _ p1 (by simp)).mono ?_
  rintro e w2 ⟨rfl, p2, k2⟩
  go_wp2_with fail
  refine (put_no b c 1 [7] 8 _ p2 (by simp)).mono ?_
  rintro e w3 ⟨rfl, p3, k3⟩
  go_wp2_with fail
  refine (take_yes b c 1 [] 7 _ p3).mono ?_
  rintro e w4 ⟨rfl, p4, k4⟩
  go_wp2_with fail
  refine (room_some b c 1 [] _ p4 (by simp) (by omega)).mono ?_
  rintro e w5 ⟨rfl, k, rfl⟩
  go_wp2_with fail
  go_ret
  have hT : ∀ k, k < w.heap.size → Only c k → No k := fun k hk h => by simp [Only] at h; omega
  exact ⟨rfl, (((k1.trans k2 hT).trans k3 hT).trans k4 hT).drewN k⟩
end Go.Proofs.Ytelpplfjcoeghaa.Pipe
