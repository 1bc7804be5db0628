/-
  Text into a builder: which blocks it touches; paper.Text's say.
-/
import Derived.Test.YtaffaliplmfagaaGreatDoorBuild
import Derived.Test.YtaffaliplmfagaaGreatDoorLine
import Derived.Test.YtaffaliplmfagaaGreatDoorAlloc
set_option linter.unusedVariables false
set_option linter.unusedSimpArgs false
namespace Go.Proofs.YtaffaliplmfagaaGreatDoor.Line
open Go.RowKit Go.Sort Go.Proofs.YtaffaliplmfagaaGreatDoor.Own Go.Proofs.YtaffaliplmfagaaGreatDoor.Conv Go.Proofs.YtaffaliplmfagaaGreatDoor.Build

theorem bset {w : World} {b : Nat} {cs : Array Value} {t : TypeId} (h : Box w b cs t) (i : Nat) (u : Value) : Box (w.setCell ⟨b, i, none⟩ u) b (cs.setIfInBounds i u) t := by
  unfold Box at h ⊢
  simp only [World.setCell, Array.getElem?_modify, if_true, h, Option.map_some]
  rfl
theorem own_type {w : World} {B n size g : Nat} {e : TypeId} {v : Value} {xs : List Value} (h : w.ownsRow B e size v n xs) (hg : v.ownBlock = some g) {cs : Array Value} {t : TypeId} (hb : Box w g cs t) : t = e := by
  rcases h.2 with ⟨rfl, _⟩ | ⟨g', cap, cur, rfl, _, hh, _⟩
  · cases hg
  · obtain rfl : g' = g := Option.some.inj hg
    have := hb.symm.trans hh
    cases this
    rfl
/-- The builder's blocks. -/
def BB (b : Nat) (v : Value) (q : Nat) : Prop := q = b ∨ v.ownBlock = some q
/-- A builder at b, whose octets lie in v. -/
structure BV (w : World) (B b : Nat) (v : Value) (l : List UInt8) : Prop where
  base : B ≤ b
  box : Box w b #[.pointer none, v] 73 ∨ Box w b #[.pointer (some ⟨b, 0, none⟩), v] 73
  own : w.ownsRow B 5 1 v (Lib.byteCells l).length (Lib.byteCells l)
  ne : v.ownBlock ≠ some b
theorem BV.isB {w : World} {B b : Nat} {v : Value} {l : List UInt8} (h : BV w B b v l) : Lib.IsBuilder 73 5 B b (Lib.byteCells l) w :=
  h.box.imp (fun x => ⟨h.base, v, x, h.own, h.ne⟩) (fun x => ⟨h.base, v, x, h.own, h.ne⟩)
theorem BV.new (w : World) : BV (w.alloc (.cells #[.pointer none, .slice none 0 0] 73)) w.heap.size w.heap.size (.slice none 0 0) [] :=
  ⟨Nat.le_refl _, .inl (Box.new w _ _), World.ownsRow_nil _ _ _ _, by simp [Value.ownBlock]⟩
theorem BV.from {w : World} {B b : Nat} {v : Value} {l : List UInt8} (h : BV w B b v l) {q : Nat} (hq : BB b v q) : B ≤ q := by
  rcases hq with rfl | hq
  · exact h.base
  · exact (h.own.lt q hq).1
theorem BV.lt {w : World} {B b : Nat} {v : Value} {l : List UInt8} (h : BV w B b v l) {q : Nat} (hq : BB b v q) : q < w.heap.size := by
  rcases hq with rfl | hq
  · rcases h.box with h | h <;> exact h.lt
  · exact (h.own.lt q hq).2
theorem own_kept {S : Nat → Prop} {w w' : World} {B n : Nat} {e : TypeId} {size : Nat} {v : Value} {xs : List Value} (h : w.ownsRow B e size v n xs) (hk : Kept S w w') (hS : ∀ g, v.ownBlock = some g → ¬ S g) : w'.ownsRow B e size v n xs := by
  refine ⟨h.1, ?_⟩
  rcases h.2 with hn | ⟨g, cap, cur, rfl, hB, hg, rest⟩
  · exact .inl hn
  · exact .inr ⟨g, cap, cur, rfl, hB, (hk.block g (Array.getElem?_eq_some_iff.1 hg).1 (hS g rfl)).trans hg, rest⟩
theorem BV.kept {S : Nat → Prop} {w w' : World} {B b : Nat} {v : Value} {l : List UInt8} (h : BV w B b v l) (hk : Kept S w w') (hS : ∀ q, BB b v q → ¬ S q) : BV w' B b v l :=
  ⟨h.base, h.box.imp (fun x => x.kept hk (hS b (.inl rfl))) (fun x => x.kept hk (hS b (.inl rfl))), own_kept h.own hk (fun g hg => hS g (.inr hg)), h.ne⟩

theorem check_v (B b : Nat) (v : Value) (l : List UInt8) (w : World) (h : BV w B b v l) :
    Calls Tryz.prog 53 #[.pointer (some ⟨b, 0, none⟩)] w fun e w' => e = .returned (.tuple #[]) ∧ Box w' b #[.pointer (some ⟨b, 0, none⟩), v] 73 ∧ w'.ownsRow B 5 1 v (Lib.byteCells l).length (Lib.byteCells l) ∧ Kept (Only b) w w' := by
  rcases h.box with hb | hb
  · have hB : Lib.BuilderAt 73 5 B b (.pointer none) (Lib.byteCells l) w := ⟨h.base, v, hb, h.own, h.ne⟩
    refine (check_fresh b w hB.cell0 hB.shape hB.frozen0).mono ?_
    rintro e w' ⟨rfl, rfl⟩
    have hk : Kept (Only b) w (w.setCell ⟨b, 0, none⟩ (.pointer (some ⟨b, 0, none⟩))) := (Kept.refl _ w).setCell (p := ⟨b, 0, none⟩) (fun _ => by exact rfl) _
    exact ⟨rfl, bset hb 0 _, own_kept h.own hk (fun g hg e => h.ne (by rw [hg]; exact congrArg some e)), hk⟩
  · refine (check_used b w (by rw [hb.cell]; rfl)).mono ?_
    rintro e w' ⟨rfl, rfl⟩
    exact ⟨rfl, hb, h.own, Kept.refl _ _⟩

set_option maxHeartbeats 2000000 in
set_option maxRecDepth 100000 in
theorem wstr_v (B b : Nat) (v : Value) (l m : List UInt8) (s : ByteArray) (hsm : (⟨m.toArray⟩ : ByteArray) = s) (w : World) (h : BV w B b v l) (hlen : l.length ≤ 100000) (hm : m.length ≤ 100000) (hBw : B ≤ w.heap.size) :
    Calls Tryz.prog 33 #[.pointer (some ⟨b, 0, none⟩), .string s] w fun e w' => e = .returned (.tuple #[.int .i64 s.size, .nilIface]) ∧ Kept (BB b v) w w' ∧ ∃ v', BV w' B b v' (l ++ m) := by
  obtain ⟨i0, hi, hz0, hz1, hz2⟩ := info_parts infoByte
  have hcl : (Lib.byteCells l).length ≤ 100000 := by rw [byteCells_len]; exact hlen
  have hsz : s.size ≤ 100000 := by rw [← hsm]; simpa [ByteArray.size] using hm
  have hst : Lib.strCells s = Lib.byteCells m := by rw [← hsm, Lib.strCells_eq]
  have HST := Lib.hid hst
  have HC := Lib.hid (check_v B b v l w h)
  have HH := Lib.hid h
  clear hsm hst h
  go_enter Tryz.func33, Tryz.ntmps33
  go_wp2_with fail
  refine HC.out.mono ?_
  rintro e w1 ⟨rfl, hbk, hown, hk1⟩
  have hz := hk1.size
  have c0 : w1.cell? ⟨b, 0, none⟩ = some (.pointer (some ⟨b, 0, none⟩)) := hbk.cell 0
  have c1 : w1.cell? ⟨b, 1, none⟩ = some v := hbk.cell 1
  go_wp2_with (at_builtin; refine Lib.wpList_append_own_string _ rfl _ _ 28 9 rfl B 5 i0 Tryz.underlying28 Tryz.underlying9 hi hz0 hz1 hz2 _ _ _ rfl hown s rfl ?c3 ?c4 ?c5 ?_)
  case c3 => unfold maxLen; omega
  case c4 => omega
  case c5 => omega
  intro v' w2 hown' hgrow hnew
  have hne := HH.out.ne
  have hlt := hbk.lt
  have hb2 : Box w2 b #[.pointer (some ⟨b, 0, none⟩), v] 73 := (hgrow.block b hlt (fun e => hne e.symm)).trans hbk
  have d0 : w2.cell? ⟨b, 0, none⟩ = some (.pointer (some ⟨b, 0, none⟩)) := hb2.cell 0
  have d1 : w2.cell? ⟨b, 1, none⟩ = some v := hb2.cell 1
  have f1 : w2.frozen? ⟨b, 1, none⟩ = false := hb2.frozen 1
  have hne' : v'.ownBlock ≠ some b := fun e => absurd (own_type hown' e hb2) (by decide)
  obtain ⟨ao, n', cap, rfl⟩ : ∃ ao n' cap, v' = .slice ao n' cap := by
    rcases hown'.2 with ⟨hv, _⟩ | ⟨g, cap, cur, hv, _⟩
    · exact ⟨_, _, _, hv⟩
    · exact ⟨_, _, _, hv⟩
  have k2 : Kept (BB b v) w w2 := (hk1.mono (fun q _ h => .inl h)).grown hgrow (fun q _ h => .inr h)
  have ks : Kept (Only b) w2 (w2.setCell ⟨b, 1, none⟩ (.slice ao n' cap)) := (Kept.refl _ w2).setCell (p := ⟨b, 1, none⟩) (fun _ => by exact rfl) _
  have hbv : BV (w2.setCell ⟨b, 1, none⟩ (.slice ao n' cap)) B b (.slice ao n' cap) (l ++ m) := by
    refine ⟨HH.out.base, .inr (bset hb2 1 _), ?_, hne'⟩
    rw [byteCells_app, List.length_append, ← HST.out, Lib.strCells_length]
    exact own_kept hown' ks (fun g hg e => hne' (by rw [hg]; exact congrArg some e))
  have HBV := Lib.hid hbv
  have HKF := Lib.hid (k2.setCell (p := ⟨b, 1, none⟩) (fun _ => .inl rfl) (.slice ao n' cap))
  clear hown hown' hgrow hnew hb2 k2 ks hbv
  go_wp2
  go_ret2
  exact ⟨rfl, HKF.out, _, HBV.out⟩

set_option maxHeartbeats 2000000 in
theorem say_v (B b : Nat) (v : Value) (l : List UInt8) (w : World) (h : BV w B b v l) (hB : B ≤ w.heap.size) (x : Value) (n : Nat) (xs : List (List UInt8)) (hx : Rd w 1 x n (sv xs)) (hn : n ≤ 1000) (hl : (Lib.join xs [32]).length ≤ 1000) (hll : l.length ≤ 100000) :
    Calls Tryz.prog 32 #[x, .pointer (some ⟨b, 0, none⟩)] w fun e w' => e = .returned (.tuple #[]) ∧ Kept (BB b v) w w' ∧ ∃ v', BV w' B b v' (l ++ (Lib.join xs [32] ++ [10])) := by
  obtain ⟨s0, hs0⟩ : ∃ s : ByteArray, (⟨(Lib.join xs [32]).toArray⟩ : ByteArray) = s := ⟨_, rfl⟩
  have hj := join_is w x n xs hx (by omega) (by omega)
  rw [hs0] at hj
  have hsz : s0.size ≤ 1000 := by rw [← hs0]; simpa [ByteArray.size] using hl
  have hs1 : (⟨(Lib.join xs [32] ++ [10]).toArray⟩ : ByteArray) = s0 ++ ⟨#[10]⟩ := by
    rw [← hs0]
    apply ByteArray.ext
    simp
  have hw := fun w1 h1 hB1 => wstr_v B b v l (Lib.join xs [32] ++ [10]) (s0 ++ ⟨#[10]⟩) hs1 w1 h1 hll (by simp; omega) hB1
  have HJ := Lib.hid hj
  have HW := Lib.hid hw
  have HH := Lib.hid h
  clear hs0 hj h hx hs1 hw
  go_enter Tryz.func32, Tryz.ntmps32
  go_wp2_with fail
  refine HJ.out.mono ?_
  rintro e w1 ⟨rfl, k1⟩
  have hB1 : B ≤ w1.heap.size := Nat.le_trans hB k1.size
  have h1 := Lib.hid (HH.out.kept k1 (fun _ _ => id))
  have K1 := Lib.hid k1
  clear k1 HJ HH
  go_wp2_with fail
  refine (HW.out w1 h1.out hB1).mono ?_
  rintro e w2 ⟨rfl, k2, v2, h2⟩
  have K2 : Hid (Kept (BB b v) w w2) := Lib.hid ((K1.out.mono (fun _ _ f => f.elim)).trans k2 (fun _ _ h => h))
  have H2 := Lib.hid h2
  clear k2 h2
  go_wp2_with fail
  go_end0
  exact ⟨rfl, K2.out, _, H2.out⟩
end Go.Proofs.YtaffaliplmfagaaGreatDoor.Line
