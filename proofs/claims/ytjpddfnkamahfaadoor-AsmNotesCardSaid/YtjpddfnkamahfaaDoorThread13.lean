/-
  The reader's memory behind a thread more.
-/
import Derived.Test.YtjpddfnkamahfaaDoorRdr13
set_option linter.unusedVariables false
set_option linter.unusedSimpArgs false
namespace Go.Proofs.YtjpddfnkamahfaaDoor.Line
open Go.RowKit Go.Sort Go.Proofs.YtjpddfnkamahfaaDoor.Own Go.Proofs.YtjpddfnkamahfaaDoor.Conv Go.Proofs.YtjpddfnkamahfaaDoor.Calm

theorem RdrMem.seg_of {w : World} {B b : Nat} {st : PS} {v : Value} {hds : List Value} (h : RdrMem w B b st v hds) {i : Nat} {hd : Value} (hi : hds[i]? = some hd) : ∃ n xs, Seg w B 25 5 hd n (vals xs) := by
  have hlt : i < st.rows.length := by rw [← h.len]; exact (List.getElem?_eq_some_iff.1 hi).1
  obtain ⟨n, hs⟩ := h.row i hd st.rows[i] hi (List.getElem?_eq_getElem hlt)
  exact ⟨n, _, hs⟩
theorem RdrMem.thread {w w3 : World} {B b : Nat} {st : PS} {v v3 : Value} {hds : List Value} {C : Obj} (h : RdrMem w B b st v hds) (hB : B ≤ w.heap.size)
    (hs3 : Seg w3 B 52 1 v3 (hds.length + 1) (hds ++ [.slice (some ⟨w.heap.size, 0, none⟩) 0 0]))
    (hg3 : ((w.alloc (.cells #[] 25)).alloc C).grownBy w3 v.ownBlock)
    (hb3 : ∀ g, v3.ownBlock = some g → v.ownBlock = some g ∨ ((w.alloc (.cells #[] 25)).alloc C).heap.size ≤ g) :
    RdrMem (w3.setCell ⟨b, 3, none⟩ v3) B b ⟨st.r, st.c, st.s, st.bg, st.rows ++ [[]]⟩ v3 (hds ++ [.slice (some ⟨w.heap.size, 0, none⟩) 0 0]) := by
  have hbl := h.box.lt
  have hsz : ((w.alloc (.cells #[] 25)).alloc C).heap.size = w.heap.size + 2 := by rw [World.size_alloc, World.size_alloc]
  rw [hsz] at hb3
  have K3 : Kept (fun q => v.ownBlock = some q) w w3 := (((Kept.refl _ w).alloc (.cells #[] 25)).alloc C).grown hg3 (fun q hq hr => hr)
  have K4 : Kept (fun q => v.ownBlock = some q) (w.alloc (.cells #[] 25)) w3 := ((Kept.refl _ (w.alloc (.cells #[] 25))).alloc C).grown hg3 (fun q hq hr => hr)
  have KS : Kept (Only b) w3 (w3.setCell ⟨b, 3, none⟩ v3) := (Kept.refl _ w3).setCell (p := ⟨b, 3, none⟩) (fun _ => by exact rfl) v3
  have hvlt : ∀ g, v.ownBlock = some g → g < w.heap.size := fun g hg => (h.code.lt g hg).2
  have hvb3 : v3.ownBlock ≠ some b := fun e => by
    rcases hb3 b e with h1 | h1
    · exact h.vb h1
    · omega
  have hseg0 : Seg (w3.setCell ⟨b, 3, none⟩ v3) B 25 5 (.slice (some ⟨w.heap.size, 0, none⟩) 0 0) 0 (vals []) := by
    refine ⟨rfl, .inr ⟨w.heap.size, 0, 0, #[], rfl, hB, ?_, Nat.le_refl _, by simp [maxLen], by simp, fun j hj => by omega⟩⟩
    have h0 := (Box.new w #[] 25)
    have h1 := h0.kept K4 (fun e => by have := hvlt _ e; omega)
    exact (h1.kept KS (fun e => by have : w.heap.size = b := e; omega)).blk
  refine ⟨h.base, ?_, ?_, ?_, ?_, hvb3, ?_, ?_⟩
  · exact Box.set (h.box.kept K3 h.vb) 3 v3
  · rw [List.length_append]
    exact hs3.kept KS (fun g hg e => hvb3 (by rw [hg]; exact congrArg some e))
  · simp [h.len]
  · intro i hd xs h1 h2
    rcases Nat.lt_or_ge i hds.length with hi | hi
    · rw [List.getElem?_append_left hi] at h1
      rw [List.getElem?_append_left (by rw [← h.len]; exact hi)] at h2
      obtain ⟨n, hs⟩ := h.row i hd xs h1 h2
      have hh := h.hb hd (List.mem_of_getElem? h1)
      exact ⟨n, (hs.kept K3 (fun g hg e => hh.2 g hg e)).kept KS (fun g hg e => hh.1 (by rw [hg]; exact congrArg some e))⟩
    · rw [List.getElem?_append_right hi] at h1
      rw [List.getElem?_append_right (by rw [← h.len]; exact hi), ← h.len] at h2
      rcases hk : i - hds.length with _ | k
      · rw [hk] at h1 h2
        simp only [List.getElem?_cons_zero, Option.some.injEq] at h1 h2
        subst h1
        subst h2
        exact ⟨0, hseg0⟩
      · rw [hk] at h1
        simp at h1
  · intro hd hm
    rcases List.mem_append.1 hm with hm | hm
    · have hh := h.hb hd hm
      refine ⟨hh.1, fun g hg e => ?_⟩
      rcases hb3 g e with h1 | h1
      · exact hh.2 g hg h1
      · obtain ⟨i, hi⟩ := List.getElem?_of_mem hm
        obtain ⟨n, xs, hs⟩ := h.seg_of hi
        have := (hs.lt g hg).2
        omega
    · rw [List.mem_singleton] at hm
      subst hm
      refine ⟨fun e => ?_, fun g hg e => ?_⟩
      · have : w.heap.size = b := Option.some.inj e
        omega
      · have hgw : w.heap.size = g := Option.some.inj hg
        rcases hb3 g e with h1 | h1
        · have := hvlt g h1
          omega
        · omega
  · intro i j hi hj hij h1 h2 g hg e
    have old : ∀ (i : Nat) (hi : Value), hds[i]? = some hi → ∀ g, hi.ownBlock = some g → g < w.heap.size := fun i hi h1 g hg => by
      obtain ⟨n, xs, hs⟩ := h.seg_of h1
      exact (hs.lt g hg).2
    have new : ∀ (i : Nat) (hi : Value), hds.length ≤ i → (hds ++ [Value.slice (some ⟨w.heap.size, 0, none⟩) 0 0])[i]? = some hi → i = hds.length ∧ ∀ g, hi.ownBlock = some g → g = w.heap.size := fun i hi hle h1 => by
      rw [List.getElem?_append_right hle] at h1
      rcases hk : i - hds.length with _ | k
      · rw [hk] at h1
        simp only [List.getElem?_cons_zero, Option.some.injEq] at h1
        subst h1
        exact ⟨by omega, fun g hg => (Option.some.inj hg).symm⟩
      · rw [hk] at h1
        simp at h1
    rcases Nat.lt_or_ge i hds.length with hil | hil <;> rcases Nat.lt_or_ge j hds.length with hjl | hjl
    · rw [List.getElem?_append_left hil] at h1
      rw [List.getElem?_append_left hjl] at h2
      exact h.apart i j hi hj hij h1 h2 g hg e
    · rw [List.getElem?_append_left hil] at h1
      have a1 := old i hi h1 g hg
      have a2 := (new j hj hjl h2).2 g e
      omega
    · rw [List.getElem?_append_left hjl] at h2
      have a1 := old j hj h2 g e
      have a2 := (new i hi hil h1).2 g hg
      omega
    · have a1 := (new i hi hil h1).1
      have a2 := (new j hj hjl h2).1
      omega
end Go.Proofs.YtjpddfnkamahfaaDoor.Line
