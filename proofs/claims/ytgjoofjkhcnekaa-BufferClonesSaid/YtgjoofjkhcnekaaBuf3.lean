/-
  The walk of package buffer's All: each entry goes round once.
-/
import Derived.Test.YtgjoofjkhcnekaaBuf2
set_option linter.unusedVariables false
namespace Go.Proofs.Ytgjoofjkhcnekaa.Buf
open Go.RowKit Go.Conc Go.Proofs.Ytgjoofjkhcnekaa.Chan Go.Proofs.Ytgjoofjkhcnekaa.Own

theorem info_ent : (Try.prog.info? 35).map (fun i => (i.zero, i.size, i.bytes)) = some (some zero.v, 8, 64) := by kernel_rfl

theorem rot_head (xs : List Ent) (k : Nat) (h : k < xs.length) : xs.drop k ++ xs.take k = xs[k] :: (xs.drop (k + 1) ++ xs.take k) := by
  rw [List.drop_eq_getElem_cons h]; rfl
theorem take_next (xs : List Ent) (k : Nat) (h : k < xs.length) : ecs (xs.take (k + 1)) = ecs (xs.take k) ++ vals xs[k].zs := by
  rw [List.take_succ_eq_append_getElem h, ecs_app]; simp [ecs]
theorem rot_next (xs : List Ent) (k : Nat) (h : k < xs.length) : (xs.drop (k + 1) ++ xs.take k) ++ [xs[k]] = xs.drop (k + 1) ++ xs.take (k + 1) := by
  rw [List.take_succ_eq_append_getElem h, List.append_assoc]

theorem box_cells {w1 w2 : World} {cs : Array Value} {t : TypeId} {c : Nat} (hc : c < w1.heap.size) (hk : Kept (Only c) (w1.alloc (.cells cs t)) w2) (i : Nat) : w2.cell? ⟨w1.heap.size, i, none⟩ = cs[i]? := by
  rw [hk.cell (p := ⟨w1.heap.size, i, none⟩) (by simp) (by simp [Only]; omega), World.cell?_alloc_new]

def AllPost (w : World) (b c cap : Nat) (xs : List Ent) (e : Ending) (w' : World) : Prop :=
  ∃ v, e = .returned v ∧ Seg w' w.heap.size 35 8 v xs.length (ecs xs) ∧ Pt w' b c cap xs ∧ Kept (Only c) w w'

set_option maxHeartbeats 2000000 in
theorem all_some (b c cap : Nat) (xs : List Ent) (w : World) (h : Pt w b c cap xs) (hc : xs.length ≤ cap) (hm : cap ≤ 4) :
    Calls Try.prog 16 #[.pointer (some ⟨b, 0, .none⟩)] w (AllPost w b c cap xs) := by
  have hl := h.2.1.lt
  have hbl := h.2.2.1
  obtain ⟨i0, hi, hz0, hz1, hz2⟩ := info_parts info_ent
  go_enter Try.func16, Try.ntmps16
  go_wp2_with fail
  refine (len_some b c cap xs _ h).mono ?_
  rintro e w' ⟨rfl, rfl⟩
  go_wp2_with fail
  go_loopw [8, 3] (fun i v wr => ∃ k : Nat, k ≤ xs.length ∧ i = .int .i64 k ∧ Seg wr w'.heap.size 35 8 v k (ecs (xs.take k)) ∧ Pt wr b c cap (xs.drop k ++ xs.take k) ∧ Kept (Only c) w' wr)
    (fun i _ wr => xs.length - (intOf i).toNat)
  case atStart =>
    exact ⟨0, by omega, rfl, by simpa [ecs] using Seg.nil _ _ _ _, by simpa using h, Kept.refl _ _⟩
  case round =>
    obtain ⟨k, hk, rfl, hs, hch, hkp⟩ := hrel
    have hsz := hkp.size
    by_cases hlt : k < xs.length
    · rw [rot_head xs k hlt] at hch
      have hx : (xs.drop (k + 1) ++ xs.take k).length < cap := by simp; omega
      have ht := Lib.hid (rot_next xs k hlt)
      have htk := Lib.hid (take_next xs k hlt)
      generalize xs[k] = x at *
      go_wp2_with fail
      refine (pop_yes b c cap _ x _ hch).mono ?_
      rintro e w1 ⟨rfl, hp1, hk1⟩
      have hs1 := hs.kept hk1 (fun g hg => by have := hs.lt g hg; simp [Only]; omega)
      have hsz1 := Nat.le_trans hsz hk1.size
      obtain ⟨xk, xi, xj, xn, xc, xg, xgen, xpc⟩ := x
      simp only [Ent.v]
      have hA := (Kept.refl No w1).alloc (.cells #[.int .i64 xk, .int .i64 xi, .int .i64 xj, .int .i64 xn, .int .i64 xc, .int .i64 xg, .int .i64 xgen, .int .i64 xpc] 35)
      have hp1' := hp1.kept hA id id
      have hs1' := hs1.kept hA (fun _ _ => id)
      clear hch hs
      go_wp2_with fail
      refine (push_yes b c cap _ ⟨xk, xi, xj, xn, xc, xg, xgen, xpc⟩ _ hp1' hx).mono ?_
      rintro e w2 ⟨rfl, hp2, hk2⟩
      have hcl1 := hp1.2.1.lt
      have hs2 := hs1'.kept hk2 (fun g hg => by have := hs1'.lt g hg; simp [Only]; omega)
      have hz := box_cells hcl1 hk2
      have z0 := hz 0
      have z1 := hz 1
      have z2 := hz 2
      have z3 := hz 3
      have z4 := hz 4
      have z5 := hz 5
      have z6 := hz 6
      have z7 := hz 7
      simp at z0 z1 z2 z3 z4 z5 z6 z7
      have hK2 : Kept (Only c) w' w2 := ((hkp.trans hk1 (fun _ _ h => h)).alloc _).trans hk2 (fun _ _ h => h)
      have hsz2 := hK2.size
      clear hz hp1' hs1' hA hk2 hk1 hkp
      go_wp2_with (at_builtin; refine wpList_append_seg rfl _ _ 27 rfl w'.heap.size 35 i0 zero.v 8 64 Try.underlying27 hi hz0 hz1 hz2 rfl (by decide) _ _ _ rfl (hs2.kept ((Kept.refl No _).alloc _) (fun _ _ f => f.elim)) ⟨_, 0, none⟩ 1 1 (vals (Ent.mk xk xi xj xn xc xg xgen xpc).zs) rfl rfl ?c1 ?c2 ?c3 ?c4 ?c5 ?_)
      case c1 => exact cells_new _ _ _
      case c2 => exact one_ints _
      case c3 => unfold maxLen; omega
      case c4 => omega
      case c5 => simp; omega
      intro v3 w3 hs3 hg3 _
      have hK3 := (hK2.alloc (.cells #[.int .i64 xk, .int .i64 xi, .int .i64 xj, .int .i64 xn, .int .i64 xc, .int .i64 xg, .int .i64 xgen, .int .i64 xpc] 35)).grown hg3 (fun g hlt hg => by have := (hs2.lt g hg).1; omega)
      have hgk := (Kept.refl (fun k => u3.ownBlock = some k) (w2.alloc (.cells #[.int .i64 xk, .int .i64 xi, .int .i64 xj, .int .i64 xn, .int .i64 xc, .int .i64 xg, .int .i64 xgen, .int .i64 xpc] 35))).grown hg3 (fun k _ hk => hk)
      have hp3 : Pt w3 b c cap (xs.drop (k + 1) ++ xs.take (k + 1)) := by
        rw [← ht.out]
        exact (hp2.kept ((Kept.refl No w2).alloc _) id id).kept hgk (fun hb => by have := (hs2.lt b hb).1; omega) (fun hc' => by have := (hs2.lt c hc').1; omega)
      clear hp2 hs2 hg3 hgk hK2 hp1 hs1 z0 z1 z2 z3 z4 z5 z6 z7
      go_wp2_with fail
      go_roundw
      case rel => exact ⟨k + 1, by omega, by go_num, by rw [htk.out]; exact hs3, hp3, hK3⟩
      case measure => simp [intOf]; omega
    · obtain rfl : k = xs.length := by omega
      rw [List.drop_length, List.take_length] at hch
      rw [List.take_length] at hs
      go_wp2_with fail
      go_ret
      exact ⟨_, rfl, hs, hch, hkp⟩
end Go.Proofs.Ytgjoofjkhcnekaa.Buf
