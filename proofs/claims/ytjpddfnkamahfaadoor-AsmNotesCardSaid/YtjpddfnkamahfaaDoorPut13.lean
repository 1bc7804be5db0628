/-
  The reader's memory behind an instruction more.
-/
import Derived.Test.YtjpddfnkamahfaaDoorThread13
set_option linter.unusedVariables false
set_option linter.unusedSimpArgs false
namespace Go.Proofs.YtjpddfnkamahfaaDoor.Line
open Go.RowKit Go.Sort Go.Proofs.YtjpddfnkamahfaaDoor.Own Go.Proofs.YtjpddfnkamahfaaDoor.Conv Go.Proofs.YtjpddfnkamahfaaDoor.Calm

theorem putLast_len : ∀ (rows : List (List Int)) (y : List Int), (putLast rows y).length = rows.length
  | [], _ => rfl
  | [_], _ => rfl
  | _ :: x2 :: xs, y => by rw [putLast, List.length_cons, putLast_len (x2 :: xs) y]; rfl
theorem putLast_at : ∀ (rows : List (List Int)) (y : List Int) (i : Nat), (putLast rows y)[i]? = if i + 1 = rows.length then rows[i]?.map (· ++ y) else rows[i]?
  | [], _, i => by simp [putLast]
  | [x], y, i => by
    cases i with
    | zero => simp [putLast]
    | succ i => simp [putLast]
  | x :: x2 :: xs, y, i => by
    cases i with
    | zero => simp [putLast]
    | succ i =>
      rw [putLast, List.getElem?_cons_succ, putLast_at (x2 :: xs) y i]
      simp only [List.length_cons, List.getElem?_cons_succ, Nat.add_right_cancel_iff]

/-- w: the reader's; w4: behind the append to the last row (its own block, and new ones, were touched); then the header is stored. -/
theorem RdrMem.put {w w4 : World} {B b p gc oc n cap m : Nat} {st : PS} {v' hd : Value} {xs five : List Int} {hds : List Value} (h : RdrMem w B b st (.slice (some ⟨gc, oc, none⟩) n cap) hds) (hn : n = hds.length) (hp : p + 1 = hds.length)
    (hhd : hds[p]? = some hd) (hxs : st.rows[p]? = some xs) (K : Kept (fun q => hd.ownBlock = some q) w w4)
    (hs : Seg w4 B 25 5 v' m (vals (xs ++ five))) (hb : ∀ g, v'.ownBlock = some g → hd.ownBlock = some g ∨ w.heap.size ≤ g) :
    RdrMem (w4.setCell ⟨gc, oc + p, none⟩ v') B b ⟨st.r, st.c, st.s, st.bg, putLast st.rows five⟩ (.slice (some ⟨gc, oc, none⟩) n cap) (hds.set p v') := by
  have hbl := h.box.lt
  have hhb := h.hb hd (List.mem_of_getElem? hhd)
  have hgcb : gc ≠ b := fun e => h.vb (congrArg some e)
  have hgcl : gc < w.heap.size := (h.code.lt gc rfl).2
  have KS : Kept (Only gc) w4 (w4.setCell ⟨gc, oc + p, none⟩ v') := (Kept.refl _ w4).setCell (p := ⟨gc, oc + p, none⟩) (fun _ => by exact rfl) v'
  have hvg : v'.ownBlock ≠ some gc := fun e => by
    rcases hb gc e with h2 | h2
    · exact hhb.2 gc h2 rfl
    · omega
  have hvb : v'.ownBlock ≠ some b := fun e => by
    rcases hb b e with h2 | h2
    · exact hhb.1 h2
    · omega
  have old : ∀ (i : Nat) (hi : Value), hds[i]? = some hi → ∀ g, hi.ownBlock = some g → g < w.heap.size := fun i hi h1 g hg => by
    obtain ⟨n, xs, hs⟩ := h.seg_of h1
    exact (hs.lt g hg).2
  have hset : ∀ (i : Nat) (hi : Value), (hds.set p v')[i]? = some hi → (i = p ∧ hi = v') ∨ (i ≠ p ∧ hds[i]? = some hi) := fun i hi h2 => by
    rw [List.getElem?_set] at h2
    by_cases hip : p = i
    · rw [if_pos hip] at h2
      split at h2
      · exact .inl ⟨hip.symm, (Option.some.inj h2).symm⟩
      · cases h2
    · rw [if_neg hip] at h2
      exact .inr ⟨Ne.symm hip, h2⟩
  refine ⟨h.base, ?_, ?_, ?_, ?_, h.vb, ?_, ?_⟩
  · exact (h.box.kept K hhb.1).kept KS (fun e => hgcb (by have : b = gc := e; exact this.symm))
  · rw [List.length_set]
    have hc := h.code.kept K (fun g hg e => hhb.2 g e hg)
    rw [hn] at hc ⊢
    exact hc.set p v'
  · rw [List.length_set, putLast_len, h.len]
  · intro i hd' xs' h2 h3
    rw [putLast_at] at h3
    rcases hset i hd' h2 with ⟨rfl, rfl⟩ | ⟨hip, h2⟩
    · rw [if_pos (by rw [← h.len]; exact hp), hxs] at h3
      have : xs' = xs ++ five := (Option.some.inj h3).symm
      subst this
      exact ⟨m, hs.kept KS (fun g hg e => hvg (by rw [hg]; exact congrArg some e))⟩
    · rw [if_neg (by rw [← h.len]; omega)] at h3
      obtain ⟨n', hs'⟩ := h.row i hd' xs' h2 h3
      have hh := h.hb hd' (List.mem_of_getElem? h2)
      exact ⟨n', (hs'.kept K (fun g hg e => h.apart i p hd' hd hip h2 hhd g hg e)).kept KS (fun g hg e => hh.2 g hg (congrArg some (show gc = g from e.symm)))⟩
  · intro hd' hm
    obtain ⟨i, hi⟩ := List.getElem?_of_mem hm
    rcases hset i hd' hi with ⟨rfl, rfl⟩ | ⟨hip, h2⟩
    · exact ⟨hvb, fun g hg e => hvg (by rw [hg]; exact e.symm)⟩
    · exact h.hb hd' (List.mem_of_getElem? h2)
  · intro i j hi hj hij h2 h3 g hg e
    rcases hset i hi h2 with ⟨rfl, rfl⟩ | ⟨hip, a2⟩ <;> rcases hset j hj h3 with ⟨hj1, hj2⟩ | ⟨hjp, a3⟩
    · exact hij hj1.symm
    · rcases hb g hg with h4 | h4
      · exact h.apart _ j hd hj hij hhd a3 g h4 e
      · have := old j hj a3 g e; omega
    · rw [hj2] at e
      rw [hj1] at hij
      rcases hb g e with h4 | h4
      · exact h.apart i p hi hd hij a2 hhd g hg h4
      · have := old i hi a2 g hg; omega
    · exact h.apart i j hi hj hij a2 a3 g hg e
end Go.Proofs.YtjpddfnkamahfaaDoor.Line
