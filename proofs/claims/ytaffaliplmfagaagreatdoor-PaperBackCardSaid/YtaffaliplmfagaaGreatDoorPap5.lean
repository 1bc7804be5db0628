/-
  Package paper: octets taken from a source; one that lacks ends the reading.
-/
import Derived.Test.YtaffaliplmfagaaGreatDoorPap3
import Derived.Test.YtaffaliplmfagaaGreatDoorDyns
import Derived.Test.YtaffaliplmfagaaGreatDoorSayV
import Derived.Deep.QuietTactic
import Derived.WalkSmall
set_option linter.unusedVariables false
set_option linter.unusedSimpArgs false
namespace Go.Proofs.YtaffaliplmfagaaGreatDoor.Calm
open Go Go.Proofs.YtaffaliplmfagaaGreatDoor.Own
section
variable {P : Program} {ops : Array Oper} {md : Region.Mode} {Q' : Exit → Act → World → Prop} {S : Nat → Prop}
theorem dynS_fn {l : List Oper} {w : World} {i : Nat} {r : List Nat} {a : Act} {o : Oper} (f : FuncId) (args : Array Value) (ho : l[i]? = some o) (hr : isRead o = false) (hg : o.guard = none)
    (hrun : ∀ w, (execOp a.eval o).run P w = .ok (.enter f args) w)
    (h : Calls P f args w fun e w2 => ∃ v, e = .returned v ∧ Kept S w w2 ∧ dynS S P l.toArray Q' r (a.put o.dst v) w2) : dynS S P l.toArray Q' (i :: r) a w :=
  dynS_act ho hr hg (by
    unfold callW
    rw [hrun]
    exact h.mono fun e w2 ⟨v, he, hk⟩ => ⟨v, he, hk⟩)
end
end Go.Proofs.YtaffaliplmfagaaGreatDoor.Calm
namespace Go.Proofs.YtaffaliplmfagaaGreatDoor.Line
open Go.RowKit Go.Sort Go.Proofs.YtaffaliplmfagaaGreatDoor.Own Go.Proofs.YtaffaliplmfagaaGreatDoor.Conv Go.Proofs.YtaffaliplmfagaaGreatDoor.Calm Go.Proofs.YtaffaliplmfagaaGreatDoor.Oct

/-- A fault, as it is thrown. -/
def thrown (at_ e : Int) : Ending := .panicked [{ v := .iface 56 (.agg #[.int .i64 at_, .int .i64 e]), recovered := false }]
theorem rd_drop {w : World} {g o n cap : Nat} {bs : List Int} (h : Rd w 1 (.slice (some ⟨g, o, none⟩) n cap) n (bv bs)) {k : Nat} (hk : k ≤ n) (hn : 1 ≤ n) (u : Value) (hu : u = .slice (some ⟨g, o + k, none⟩) (n - k) (cap - k) ∨ (n - k = 0 ∧ ∃ a, u = .slice (some a) 0 (cap - k))) : Rd w 1 u (n - k) (bv (bs.drop k)) := by
  obtain ⟨hl, ao, c, hv, hc, hm, -, hR⟩ := h
  rw [Value.slice.injEq] at hv
  obtain ⟨rfl, -, rfl⟩ := hv
  rw [bv_len, Nat.mul_one] at hl
  obtain ⟨g', o', he, hg, hcell⟩ := hR (by omega)
  simp only [Option.some.injEq, Addr.mk.injEq, and_true] at he
  obtain ⟨rfl, rfl⟩ := he
  have hll : (bv (bs.drop k)).length = (n - k) * 1 := by rw [bv_len, List.length_drop]; omega
  rcases hu with rfl | ⟨h0, a, rfl⟩
  · refine ⟨hll, _, _, rfl, by omega, by omega, (fun hh => by cases hh), fun _ => ⟨g, o + k, rfl, hg, fun j u hu => ?_⟩⟩
    rw [Nat.add_assoc]
    refine hcell (k + j) u ?_
    rw [bv, List.getElem?_map, List.getElem?_drop] at hu
    rw [bv, List.getElem?_map]
    exact hu
  · refine ⟨hll, _, _, by rw [h0], by omega, by omega, (fun hh => by cases hh), fun h1 => by omega⟩

set_option maxRecDepth 100000 in
set_option maxHeartbeats 8000000 in
theorem take_is (b g o n cap : Nat) (bs : List Int) (k m : Nat) (w : World) (hb : Box w b #[.slice (some ⟨g, o, none⟩) n cap, .int .i64 k] 60) (h : Rd w 1 (.slice (some ⟨g, o, none⟩) n cap) n (bv bs)) (hoc : Octs bs) (hgb : g ≠ b) (hn1 : 1 ≤ n) (hn : n ≤ 100000) (hk : k ≤ n) (hm1 : 1 ≤ m) (hm8 : m ≤ 6) :
    Calls Tryz.prog 24 #[.pointer (some ⟨b, 0, none⟩), .int .i64 m] w fun e w' => Kept (Only b) w w' ∧
      ((n < k + m ∧ e = thrown n 1) ∨ (k + m ≤ n ∧ e = .returned (.int .i64 (beN ((bs.drop k).take m) : Nat)) ∧ Box w' b #[.slice (some ⟨g, o, none⟩) n cap, .int .i64 ((k + m : Nat) : Int)] 60)) := by
  have hl : bs.length = n := by have := h.len; rw [bv_len] at this; omega
  obtain ⟨-, ao, c, hv, hc, hm, -, -⟩ := id h
  rw [Value.slice.injEq] at hv
  obtain ⟨-, -, rfl⟩ := hv
  unfold maxLen at hm
  have HB := Lib.hid hb
  have HR := Lib.hid h
  have HO := Lib.hid hoc
  have HL := Lib.hid hl
  have p0 : ∀ p : KS No w.drew, p.w.cell? ⟨b, 0, none⟩ = some (.slice (some ⟨g, o, none⟩) n cap) := KS.old (w := w.drew) (hb.cell 0) hb.lt id
  have p1 : ∀ p : KS No w.drew, p.w.cell? ⟨b, 1, none⟩ = some (.int .i64 k) := KS.old (w := w.drew) (hb.cell 1) hb.lt id
  clear hb h hoc hl
  go_enter Tryz.func24, Tryz.ntmps24
  go_upto_region 1 with fail
  refine wp_region_dynS No ([0] ++ 1 :: ([2, 3, 4] ++ 5 :: ([6, 7, 8] ++ 9 :: ([10] ++ [])))) (by kernel_rfl) (by kernel_rfl) ?_
  refine dynS_reads _ _ (by kernel_rfl) ?_
  simp only [sel, List.filterMap_cons, List.filterMap_nil, List.getElem?_cons_succ, List.getElem?_cons_zero]
  repeat (show wpQuiet _ _ _ _ (_ :: _) _; go_big_quiet_step (fail))
  refine wpQuiet_nil ?_
  refine dynS_ptr _ ⟨b, 0, none⟩ rfl rfl rfl rfl ?_
  simp only [Act.put, List.setIfInBounds_toArray, List.set]
  refine dynS_reads _ _ (by kernel_rfl) ?_
  simp only [sel, List.filterMap_cons, List.filterMap_nil, List.getElem?_cons_succ, List.getElem?_cons_zero]
  repeat (show wpQuiet _ _ _ _ (_ :: _) _; go_big_quiet_step (fail))
  refine wpQuiet_nil ?_
  refine dynS_ptr _ ⟨b, 0, none⟩ rfl rfl rfl rfl ?_
  simp only [Act.put, List.setIfInBounds_toArray, List.set]
  refine dynS_reads _ _ (by kernel_rfl) ?_
  simp only [sel, List.filterMap_cons, List.filterMap_nil, List.getElem?_cons_succ, List.getElem?_cons_zero]
  repeat (show wpQuiet _ _ _ _ (_ :: _) _; go_big_quiet_step (fail))
  have hrd : Rd w 1 (.slice (if cap = k then some ⟨g, o, none⟩ else some ⟨g, o + k, none⟩) (n - k) (cap - k)) (n - k) (bv (bs.drop k)) := by
    refine rd_drop HR.out hk hn1 _ ?_
    by_cases hck : cap = k
    · right
      rw [if_pos hck]
      exact ⟨by omega, _, by rw [show n - k = 0 by omega]⟩
    · left
      rw [if_neg hck]
  generalize (if cap = k then some (⟨g, o, none⟩ : Addr) else some ⟨g, o + k, none⟩) = A at *
  have hod : Octs (bs.drop k) := fun c hc => HO.out c (List.mem_of_mem_drop hc)
  have hnew := new_is w.drew _ _ _ hrd (by omega)
  have HNW := Lib.hid hnew
  have HOD := Lib.hid hod
  have hld : Hid ((bs.drop k).length = n - k) := Lib.hid (by rw [List.length_drop, HL.out])
  clear hrd hod hnew p0 p1
  refine wpQuiet_nil ?_
  refine dynS_fn 43 #[.slice A (n - k) (cap - k)] rfl rfl rfl (by intro w; go_simp) ?_
  refine HNW.out.mono ?_
  rintro e w2 ⟨r, v, rfl, hr2, k2⟩
  refine ⟨_, rfl, k2, ?_⟩
  simp only [Act.put, List.setIfInBounds_toArray, List.set]
  refine dynS_reads (rest := []) [10] _ (by kernel_rfl) ?_
  simp only [sel, List.filterMap_cons, List.filterMap_nil, List.getElem?_cons_succ, List.getElem?_cons_zero]
  repeat (show wpQuiet _ _ _ _ (_ :: _) _; go_big_quiet_step (fail))
  refine wpQuiet_nil ?_
  refine dynS_nil ?_
  have K2 : Hid (Kept No w w2) := Lib.hid ((Kept.refl No w).drew.trans k2 (fun _ _ f => f))
  have hrb : w.heap.size ≤ r := hr2.2.2.2.2
  have hnum := num_is w2 _ r false 0 m v (bs.drop k) HOD.out hr2 hm1 (by omega)
  have HNM := Lib.hid hnum
  have HB2 := Lib.hid (HB.out.kept K2.out id)
  have hbl := HB.out.lt
  clear k2 hnum hr2 HNW
  go_wp2_with fail
  refine HNM.out.mono ?_
  rintro e w3 ⟨k3, ⟨hbad, rfl, -⟩ | ⟨⟨-, hgood⟩, rfl, -⟩⟩
  · have hsh : n < k + m := by have := hld.out; simp only [Nat.sub_zero, Bool.false_eq_true, false_or] at hbad; omega
    have K3 : Hid (Kept (Only b) w w3) := Lib.hid ((K2.out.mono (fun _ _ f => f.elim)).trans k3 (fun q hq h => by have : q = r := h; omega))
    have HB3 := HB2.out.kept k3 (fun h => by have : b = r := h; omega)
    have c0 : w3.cell? ⟨b, 0, none⟩ = some (.slice (some ⟨g, o, none⟩) n cap) := HB3.cell 0
    clear k3 hbad HB3
    go_wp2_with fail
    exact ⟨rfl, K3.out, .inl ⟨hsh, rfl⟩⟩
  · have hge : k + m ≤ n := by have := hld.out; simp only [Nat.sub_zero] at hgood; omega
    have K3 : Hid (Kept (Only b) w w3) := Lib.hid ((K2.out.mono (fun _ _ f => f.elim)).trans k3 (fun q hq h => by have : q = r := h; omega))
    have HB3 := HB2.out.kept k3 (fun h => by have : b = r := h; omega)
    have c1 : w3.cell? ⟨b, 1, none⟩ = some (.int .i64 k) := HB3.cell 1
    have f1 : w3.frozen? ⟨b, 1, none⟩ = false := HB3.frozen 1
    have HBF : Hid (Box (w3.setCell ⟨b, 1, none⟩ (.int .i64 (k + m))) b #[.slice (some ⟨g, o, none⟩) n cap, .int .i64 ((k + m : Nat) : Int)] 60) := Lib.hid (bset HB3 1 _)
    have KF := Lib.hid (K3.out.setCell (p := ⟨b, 1, none⟩) (fun _ => by exact rfl) (.int .i64 (k + m)))
    have hbe := beN_lt m (bs.drop k) HOD.out
    have hwr : wrap64 ((beN ((bs.drop k).take m) : Nat) : Int) = (beN ((bs.drop k).take m) : Nat) := by
      have h6 : (256 : Nat) ^ m ≤ 256 ^ 6 := Nat.pow_le_pow_right (by omega) hm8
      have h7 : (256 : Nat) ^ 6 = 281474976710656 := by decide
      unfold wrap64
      omega
    rw [List.drop_zero, hwr]
    clear k3 hgood HB3 hbe hwr
    obtain ⟨x, hx⟩ : ∃ x, beN ((bs.drop k).take m) = x := ⟨_, rfl⟩
    rw [hx]
    have HXX := Lib.hid hx
    clear hx
    have hkm : (k : Int) + m ≤ 9223372036854775807 := by omega
    go_wp2_with fail
    go_ret
    exact ⟨KF.out, .inr ⟨hge, by rw [HXX.out]; rfl, HBF.out⟩⟩

theorem wrF_le (bs : List Int) : ∀ (d k : Nat), (Pick.wrF bs k d).2 ≠ 0 → (Pick.wrF bs k d).1 ≤ bs.length
  | 0, k, h => absurd rfl h
  | d + 1, k, h => by
    rw [Pick.wrF] at h ⊢
    split
    · exact Nat.le_refl _
    · rename_i h1
      rw [if_neg h1] at h
      split
      · show 2 + k ≤ bs.length
        omega
      · rename_i h2
        rw [if_neg h2] at h
        exact wrF_le bs d (k + 1) h
theorem wrong_le (bs : List Int) (h : (Pick.wrongL bs).2 ≠ 0) : (Pick.wrongL bs).1 ≤ bs.length := by
  unfold Pick.wrongL at h ⊢
  split
  · exact Nat.le_refl _
  · rename_i h1
    rw [if_neg h1] at h
    split
    · exact Nat.zero_le _
    · rename_i h2
      rw [if_neg h2] at h
      exact wrF_le bs _ _ h

/-- Picks taken: where they end, or what is wrong. -/
def PicksPost (b g o n cap : Nat) (bs : List Int) (k : Nat) (w : World) (e : Ending) (w' : World) : Prop :=
  Kept (Only b) w w' ∧ (((Pick.wrongL (bs.drop k)).2 ≠ 0 ∧ e = thrown (k + (Pick.wrongL (bs.drop k)).1) (Pick.wrongL (bs.drop k)).2) ∨
    (((Pick.wrongL (bs.drop k)).2 = 0 ∧ Pick.wrongL (bs.drop k) = (2 + beN ((bs.drop k).take 2), 0) ∧ 2 ≤ (bs.drop k).length ∧ beN ((bs.drop k).take 2) ≤ 4096 ∧ 2 + beN ((bs.drop k).take 2) ≤ (bs.drop k).length ∧ Pick.okP (((bs.drop k).drop 2).take (beN ((bs.drop k).take 2)))) ∧
      ∃ v, e = .returned v ∧ Seg w' w.heap.size 3 1 v (beN ((bs.drop k).take 2)) (vals (((bs.drop k).drop 2).take (beN ((bs.drop k).take 2)))) ∧ Box w' b #[.slice (some ⟨g, o, none⟩) n cap, .int .i64 ((k + (2 + beN ((bs.drop k).take 2)) : Nat) : Int)] 60))

set_option maxRecDepth 100000 in
set_option maxHeartbeats 8000000 in
theorem picks_is (b g o n cap : Nat) (bs : List Int) (k : Nat) (w : World) (hb : Box w b #[.slice (some ⟨g, o, none⟩) n cap, .int .i64 k] 60) (h : Rd w 1 (.slice (some ⟨g, o, none⟩) n cap) n (bv bs)) (hoc : Octs bs) (hgb : g ≠ b) (hn1 : 1 ≤ n) (hn : n ≤ 100000) (hk : k ≤ n) :
    Calls Tryz.prog 25 #[.pointer (some ⟨b, 0, none⟩)] w (PicksPost b g o n cap bs k w) := by
  have hl : bs.length = n := by have := h.len; rw [bv_len] at this; omega
  obtain ⟨-, ao, c, hv, hc, hm, -, -⟩ := id h
  rw [Value.slice.injEq] at hv
  obtain ⟨-, -, rfl⟩ := hv
  unfold maxLen at hm
  have HB := Lib.hid hb
  have HR := Lib.hid h
  have HO := Lib.hid hoc
  have HL := Lib.hid hl
  have p0 : ∀ p : KS No w.drew, p.w.cell? ⟨b, 0, none⟩ = some (.slice (some ⟨g, o, none⟩) n cap) := KS.old (w := w.drew) (hb.cell 0) hb.lt id
  have p1 : ∀ p : KS No w.drew, p.w.cell? ⟨b, 1, none⟩ = some (.int .i64 k) := KS.old (w := w.drew) (hb.cell 1) hb.lt id
  clear hb h hoc hl
  go_enter Tryz.func25, Tryz.ntmps25
  go_upto_region 1 with fail
  refine wp_region_dynS No ([0] ++ 1 :: ([2, 3, 4] ++ 5 :: ([6, 7, 8] ++ 9 :: ([10, 11, 12, 13, 14, 15, 16] ++ [])))) (by kernel_rfl) (by kernel_rfl) ?_
  refine dynS_reads _ _ (by kernel_rfl) ?_
  simp only [sel, List.filterMap_cons, List.filterMap_nil, List.getElem?_cons_succ, List.getElem?_cons_zero]
  repeat (show wpQuiet _ _ _ _ (_ :: _) _; go_big_quiet_step (fail))
  refine wpQuiet_nil ?_
  refine dynS_ptr _ ⟨b, 0, none⟩ rfl rfl rfl rfl ?_
  simp only [Act.put, List.setIfInBounds_toArray, List.set]
  refine dynS_reads _ _ (by kernel_rfl) ?_
  simp only [sel, List.filterMap_cons, List.filterMap_nil, List.getElem?_cons_succ, List.getElem?_cons_zero]
  repeat (show wpQuiet _ _ _ _ (_ :: _) _; go_big_quiet_step (fail))
  refine wpQuiet_nil ?_
  refine dynS_ptr _ ⟨b, 0, none⟩ rfl rfl rfl rfl ?_
  simp only [Act.put, List.setIfInBounds_toArray, List.set]
  refine dynS_reads _ _ (by kernel_rfl) ?_
  simp only [sel, List.filterMap_cons, List.filterMap_nil, List.getElem?_cons_succ, List.getElem?_cons_zero]
  repeat (show wpQuiet _ _ _ _ (_ :: _) _; go_big_quiet_step (fail))
  have hrd : Rd w 1 (.slice (if cap = k then some ⟨g, o, none⟩ else some ⟨g, o + k, none⟩) (n - k) (cap - k)) (n - k) (bv (bs.drop k)) := by
    refine rd_drop HR.out hk hn1 _ ?_
    by_cases hck : cap = k
    · right
      rw [if_pos hck]
      exact ⟨by omega, _, by rw [show n - k = 0 by omega]⟩
    · left
      rw [if_neg hck]
  generalize (if cap = k then some (⟨g, o, none⟩ : Addr) else some ⟨g, o + k, none⟩) = A at *
  have hod : Octs (bs.drop k) := fun c hc => HO.out c (List.mem_of_mem_drop hc)
  have hget := Pick.get_is w.drew _ _ _ hod hrd (by omega)
  have HGT := Lib.hid hget
  have hld : Hid ((bs.drop k).length = n - k) := Lib.hid (by rw [List.length_drop, HL.out])
  clear hrd hod hget p0 p1
  refine wpQuiet_nil ?_
  refine dynS_fn 45 #[.slice A (n - k) (cap - k)] rfl rfl rfl (by intro w; go_simp) ?_
  refine HGT.out.mono ?_
  rintro e w2 ⟨k2, v, rfl, hor⟩
  refine ⟨_, rfl, k2, ?_⟩
  have HOR := Lib.hid hor
  clear hor
  obtain ⟨x, hx⟩ : ∃ x, Pick.wrongL (bs.drop k) = x := ⟨_, rfl⟩
  rw [hx]
  have HXX := Lib.hid hx
  clear hx
  obtain ⟨x1, x2⟩ := x
  simp only [Act.put, List.setIfInBounds_toArray, List.set]
  refine dynS_reads (rest := []) [10, 11, 12, 13, 14, 15, 16] _ (by kernel_rfl) ?_
  simp only [sel, List.filterMap_cons, List.filterMap_nil, List.getElem?_cons_succ, List.getElem?_cons_zero]
  repeat (show wpQuiet _ _ _ _ (_ :: _) _; go_big_quiet_step (fail))
  refine wpQuiet_nil ?_
  refine dynS_nil ?_
  have K2 : Hid (Kept No w w2) := Lib.hid ((Kept.refl No w).drew.trans k2 (fun _ _ f => f))
  have HB2 := HB.out.kept K2.out id
  have hbl := HB.out.lt
  have c1 : w2.cell? ⟨b, 1, none⟩ = some (.int .i64 k) := HB2.cell 1
  have f1 : w2.frozen? ⟨b, 1, none⟩ = false := HB2.frozen 1
  have HBB := Lib.hid HB2
  clear k2 HGT HB2
  by_cases h0 : x2 = 0
  · subst h0
    obtain ⟨hno, -⟩ | ⟨hfacts, hseg⟩ := HOR.out
    · rw [HXX.out] at hno; exact absurd rfl hno
    · have hx1 : x1 = 2 + beN ((bs.drop k).take 2) := by
        have := hfacts.2.1
        rw [HXX.out] at this
        exact congrArg Prod.fst this
      subst hx1
      obtain ⟨ao2, cp2, hv⟩ : ∃ a c, v = .slice a (beN ((bs.drop k).take 2)) c := by
        obtain ⟨_, a, c, hv, _⟩ := hseg.rd
        exact ⟨a, c, hv⟩
      have hx4 := hfacts.2.2.2.1
      have HF := Lib.hid hfacts
      have HSG := Lib.hid hseg
      have hblk : Hid (∀ q, v.ownBlock = some q → q ≠ b) := Lib.hid (fun q hq => by have : w.heap.size ≤ q := (hseg.lt q hq).1; omega)
      clear hfacts hseg
      obtain ⟨N, hN⟩ : ∃ N, beN ((bs.drop k).take 2) = N := ⟨_, rfl⟩
      rw [hN] at hv hx4 ⊢
      subst hv
      have HBF : Hid (Box (w2.setCell ⟨b, 1, none⟩ (.int .i64 ((k : Int) + (2 + (N : Int))))) b #[.slice (some ⟨g, o, none⟩) n cap, .int .i64 ((k + (2 + N) : Nat) : Int)] 60) := Lib.hid (bset HBB.out 1 _)
      have KF : Hid (Kept (Only b) w (w2.setCell ⟨b, 1, none⟩ (.int .i64 ((k : Int) + (2 + (N : Int)))))) := Lib.hid ((K2.out.mono (fun _ _ f => f.elim)).setCell (p := ⟨b, 1, none⟩) (fun _ => by exact rfl) (.int .i64 ((k : Int) + (2 + (N : Int)))))
      have HSF := Lib.hid (HSG.out.kept ((Kept.refl (Only b) w2).setCell (p := ⟨b, 1, none⟩) (fun _ => by exact rfl) (.int .i64 ((k : Int) + (2 + (N : Int))))) (fun q hq e => hblk.out q hq e))
      have HN := Lib.hid hN
      have hkm : (k : Int) + (2 + (N : Int)) ≤ 9223372036854775807 := by omega
      clear hN
      go_wp2_with fail
      go_ret
      exact ⟨KF.out, .inr ⟨HF.out, _, rfl, by rw [HN.out] at HSF ⊢; exact HSF.out, by rw [HN.out]; exact HBF.out⟩⟩
  · have e0 : (x2 != 0) = true := by simp [h0]
    have H0 := Lib.hid h0
    clear h0
    have hx1b : Hid (x1 ≤ n) := Lib.hid (by
      have h1 := wrong_le (bs.drop k) (by rw [HXX.out]; exact H0.out)
      rw [HXX.out, hld.out] at h1
      exact Nat.le_trans h1 (Nat.sub_le _ _))
    have hx1c := hx1b.out
    go_wp2_with fail
    exact ⟨rfl, K2.out.mono (fun _ _ f => f.elim), .inl ⟨by rw [HXX.out]; exact H0.out, by rw [HXX.out]; rfl⟩⟩
end Go.Proofs.YtaffaliplmfagaaGreatDoor.Line
