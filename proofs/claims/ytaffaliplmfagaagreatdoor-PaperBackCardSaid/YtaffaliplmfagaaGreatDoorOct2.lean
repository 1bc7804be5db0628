/-
  Package octet: a new reader.
-/
import Derived.Test.YtaffaliplmfagaaGreatDoorOct
import Derived.Laws.AppendOwnNone
set_option linter.unusedVariables false
namespace Go.Proofs.YtaffaliplmfagaaGreatDoor.Oct
open Go.RowKit Go.Proofs.YtaffaliplmfagaaGreatDoor.Own

theorem info_byte : (Tryz.prog.info? 5).map (fun i => (i.zero, i.size, i.bytes)) = some (some (.int .u8 0), 1, 1) := by kernel_rfl

def NewPost (w : World) (bs : List Int) (e : Ending) (w' : World) : Prop := ∃ r v, e = .returned (.pointer (some ⟨r, 0, none⟩)) ∧ Rdr w' w.heap.size r false 0 v bs ∧ Kept No w w'

set_option maxHeartbeats 2000000 in
theorem new_is (w : World) (u : Value) (n : Nat) (bs : List Int) (h : Rd w 1 u n (bv bs)) (hlim : n ≤ 1000000) :
    Calls Tryz.prog 43 #[u] w (NewPost w bs) := by
  obtain ⟨i0, hi, hz0, hz1, hz2⟩ := info_parts info_byte
  obtain ⟨hl, a, c, rfl, hc, hm, hn, hR⟩ := h
  rw [bv_len, Nat.mul_one] at hl
  have HR := Lib.hid hR
  clear hR
  go_enter Tryz.func43, Tryz.ntmps43
  have k1 := (Kept.refl No w).alloc (.cells #[] 5)
  have hs1 : Seg (w.alloc (.cells #[] 5)) w.heap.size 5 1 (.slice (some ⟨w.heap.size, 0, none⟩) 0 0) 0 [] :=
    ⟨rfl, .inr ⟨w.heap.size, 0, 0, #[], rfl, Nat.le_refl _, Blk.plain (heap_alloc_new w _), by omega, by unfold maxLen; omega, by simp, fun j hj => by omega⟩⟩
  have fin : ∀ (v' : Value) (w' : World), Seg w' w.heap.size 5 1 v' bs.length (bv bs) → Kept No w w' → NewPost w bs (.returned (.pointer (some ⟨w'.heap.size, 0, none⟩))) (w'.alloc (.cells #[.bool true, .bool false, .int .i64 0, v'] 111)) := fun v' w' hs hk =>
    ⟨_, v', rfl, ⟨Box.new w' _ _, hs.kept ((Kept.refl No w').alloc _) (fun _ _ => id), fun g hg => by have := (hs.lt g hg).2; omega, by omega, hk.size⟩, hk.alloc _⟩
  cases a with
  | none =>
    obtain ⟨rfl, rfl⟩ := hn rfl
    obtain rfl : bs = [] := List.eq_nil_of_length_eq_zero hl
    go_wp2_with (at_builtin; refine wpList_append_own_none rfl _ _ 28 rfl w.heap.size 5 i0 1 Tryz.underlying28 hi _ 0 [] rfl ⟨rfl, .inr ⟨w.heap.size, 0, #[], rfl, Nat.le_refl _, heap_alloc_new w _, by omega, by unfold maxLen; omega, by simp, by simp⟩⟩ rfl ?_)
    go_ret
    have hf := fin _ _ hs1 k1
    rw [World.size_alloc] at hf
    exact hf
  | some ad =>
    go_wp2_with (at_builtin; refine wpList_append_seg rfl _ _ 28 rfl w.heap.size 5 i0 (.int .u8 0) 1 1 Tryz.underlying28 hi hz0 hz1 hz2 rfl (by decide) _ _ _ rfl hs1 ad n c (bv bs) rfl (by rw [bv_len]; omega) ?c1 ?c2 ?c3 ?c4 ?c5 ?_)
    case c1 =>
      intro j u hu
      have hj : j < n := by have := (List.getElem?_eq_some_iff.1 hu).1; rw [bv_len] at this; omega
      obtain ⟨g, o, e, hg, hcell⟩ := HR.out (by omega)
      cases e
      rw [Addr.add_lit]
      exact (k1.cell (p := ⟨g, o + j, none⟩) hg id).trans (hcell j u hu)
    case c2 =>
      intro u hu
      simp only [bv, List.mem_map] at hu
      obtain ⟨z, _, rfl⟩ := hu
      rfl
    case c3 => unfold maxLen; omega
    case c4 => omega
    case c5 => simp
    intro v' w' hs hg _
    have hk : Kept No w w' := k1.grown hg (fun k hk e => by simp only [Value.ownBlock, Option.some.injEq] at e; omega)
    have hf := fin v' w' (by rw [hl]; simpa using hs) hk
    obtain ⟨_, a2, c2, rfl, _⟩ := hs.rd
    go_wp2_with fail
    go_ret
    exact hf
end Go.Proofs.YtaffaliplmfagaaGreatDoor.Oct
