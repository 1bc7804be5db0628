/-
  Package conf: a config and an ask as octets.
-/
import Derived.Test.YtknpjhmgkogmaaaDoorConf2
import Derived.Test.YtknpjhmgkogmaaaDoorRow
set_option linter.unusedVariables false
namespace Go.Proofs.YtknpjhmgkogmaaaDoor.Line
open Go.RowKit Go.Sort Go.Proofs.YtknpjhmgkogmaaaDoor.Own Go.Proofs.YtknpjhmgkogmaaaDoor.Conv Go.Proofs.YtknpjhmgkogmaaaDoor.Calm Go.Proofs.YtknpjhmgkogmaaaDoor.Oct

def fV (sc od th fu de mo bu : Int) (k : Nat) : Int := if k = 0 then sc else if k = 1 then od else if k = 2 then th else if k = 3 then fu else if k = 4 then de else if k = 5 then mo else bu
/-- The first k fields as octets. -/
def confB (f : Nat → Int) (k : Nat) : List Int := (List.range k).flatMap fun i => beB (f i).toNat (fW i)
theorem confB_succ (f : Nat → Int) (k : Nat) : confB f (k + 1) = confB f k ++ beB (f k).toNat (fW k) := by
  simp [confB, List.range_succ]
theorem beB_len (x n : Nat) : (beB x n).length = n := by simp [beB]
theorem fW_le (k : Nat) : 1 ≤ fW k ∧ fW k ≤ 3 := by unfold fW; split <;> omega
theorem confB_len (f : Nat → Int) : ∀ k, (confB f k).length ≤ 3 * k
  | 0 => by simp [confB]
  | k + 1 => by
    have := confB_len f k
    have := fW_le k
    rw [confB_succ, List.length_append, beB_len]
    omega
theorem fV_range {sc od th fu de mo bu : Int} (h1 : isCfg sc od th fu de = true) (h2 : isAsk mo bu = true) (k : Nat) : fLo k ≤ fV sc od th fu de mo bu k ∧ (k < 7 → fV sc od th fu de mo bu k ≤ fHi k) ∧ 0 ≤ fV sc od th fu de mo bu k ∧ fV sc od th fu de mo bu k ≤ 1048576 := by
  unfold isCfg at h1
  unfold isAsk at h2
  simp only [decide_eq_true_eq] at h1 h2
  unfold fV fLo fHi
  by_cases k0 : k = 0
  · subst k0; simp; omega
  by_cases k1 : k = 1
  · subst k1; simp; omega
  by_cases k2 : k = 2
  · subst k2; simp; omega
  by_cases k3 : k = 3
  · subst k3; simp; omega
  by_cases k4 : k = 4
  · subst k4; simp; omega
  by_cases k5 : k = 5
  · subst k5; simp; omega
  simp [k0, k1, k2, k3, k4, k5]
  omega
/-- The cells of the two, by field. -/
theorem fV_cell {w : World} {c a : Nat} {sc od th fu de mo bu : Int} {st : Value} (hc : Box w c #[.int .i64 sc, .int .i64 od, .int .i64 th, .int .i64 fu, .int .i64 de] 23) (ha : Box w a #[.int .i64 mo, .int .i64 bu, st] 25) (k : Nat) (h : k < 7) :
    w.cell? ⟨fB c a k, fO k, none⟩ = some (.int .i64 (fV sc od th fu de mo bu k)) := by
  rcases seven h with rfl | rfl | rfl | rfl | rfl | rfl | rfl
  · exact hc.cell 0
  · exact hc.cell 1
  · exact hc.cell 2
  · exact hc.cell 3
  · exact hc.cell 4
  · exact ha.cell 0
  · exact ha.cell 1

def putL (sc od th fu de mo bu : Int) (st : Bool) : List Int := confB (fV sc od th fu de mo bu) 7 ++ [if st then 1 else 0]

set_option maxRecDepth 100000 in
set_option maxHeartbeats 4000000 in
theorem confput_no (sc od th fu de mo bu : Int) (st : Bool) (h : (isCfg sc od th fu de && isAsk mo bu) = false) (w : World) :
    Calls Tryd.prog 10 #[.agg #[.int .i64 sc, .int .i64 od, .int .i64 th, .int .i64 fu, .int .i64 de], .agg #[.int .i64 mo, .int .i64 bu, .bool st]] w fun e w' => e = .returned (.tuple #[.slice none 0 0, .int .i64 3]) ∧ Kept No w w' := by
  have hb := both_is sc od th fu de mo bu st
  rw [h] at hb
  have HB := Lib.hid hb
  have hbx := (Box.new w #[.int .i64 sc, .int .i64 od, .int .i64 th, .int .i64 fu, .int .i64 de] 23).alloc (.cells #[.int .i64 mo, .int .i64 bu, .bool st] 25)
  have hby := Box.new (w.alloc (.cells #[.int .i64 sc, .int .i64 od, .int .i64 th, .int .i64 fu, .int .i64 de] 23)) #[.int .i64 mo, .int .i64 bu, .bool st] 25
  have hk : Kept No w ((w.alloc (.cells #[.int .i64 sc, .int .i64 od, .int .i64 th, .int .i64 fu, .int .i64 de] 23)).alloc (.cells #[.int .i64 mo, .int .i64 bu, .bool st] 25)) := ((Kept.refl _ _).alloc _).alloc _
  simp only [World.size_alloc] at hby
  clear hb h
  go_enter Tryd.func10, Tryd.ntmps10
  go_upto_region 1 with fail
  generalize (w.alloc (.cells #[.int .i64 sc, .int .i64 od, .int .i64 th, .int .i64 fu, .int .i64 de] 23)).alloc (.cells #[.int .i64 mo, .int .i64 bu, .bool st] 25) = w0 at *
  have c0 : w0.cell? ⟨w.heap.size, 0, none⟩ = some (.int .i64 sc) := hbx.cell 0
  have c1 : w0.cell? ⟨w.heap.size, 1, none⟩ = some (.int .i64 od) := hbx.cell 1
  have c2 : w0.cell? ⟨w.heap.size, 2, none⟩ = some (.int .i64 th) := hbx.cell 2
  have c3 : w0.cell? ⟨w.heap.size, 3, none⟩ = some (.int .i64 fu) := hbx.cell 3
  have c4 : w0.cell? ⟨w.heap.size, 4, none⟩ = some (.int .i64 de) := hbx.cell 4
  have d0 : w0.cell? ⟨w.heap.size + 1, 0, none⟩ = some (.int .i64 mo) := hby.cell 0
  have d1 : w0.cell? ⟨w.heap.size + 1, 1, none⟩ = some (.int .i64 bu) := hby.cell 1
  have d2 : w0.cell? ⟨w.heap.size + 1, 2, none⟩ = some (.bool st) := hby.cell 2
  go_wp2_with fail
  refine (HB.out _).mono ?_
  rintro e w1 ⟨rfl, k1⟩
  have hk1 := hk.trans k1 (fun _ _ f => f)
  clear c0 c1 c2 c3 c4 d0 d1 d2 hbx hby hk k1
  go_wp2_with fail
  go_ret2
  exact ⟨rfl, hk1⟩

set_option maxRecDepth 100000 in
set_option maxHeartbeats 4000000 in
theorem confput_yes (sc od th fu de mo bu : Int) (st : Bool) (h1 : isCfg sc od th fu de = true) (h2 : isAsk mo bu = true) (w : World) :
    Calls Tryd.prog 10 #[.agg #[.int .i64 sc, .int .i64 od, .int .i64 th, .int .i64 fu, .int .i64 de], .agg #[.int .i64 mo, .int .i64 bu, .bool st]] w fun e w' => ∃ v n, e = .returned (.tuple #[v, .int .i64 0]) ∧ Seg w' w.heap.size 5 1 v n (bv (putL sc od th fu de mo bu st)) ∧ Kept No w w' := by
  have hb := both_is sc od th fu de mo bu st
  rw [h1, h2] at hb
  have HB := Lib.hid hb
  have hr := fV_range h1 h2
  have HR := Lib.hid hr
  have hbx := (Box.new w #[.int .i64 sc, .int .i64 od, .int .i64 th, .int .i64 fu, .int .i64 de] 23).alloc (.cells #[.int .i64 mo, .int .i64 bu, .bool st] 25)
  have hby := Box.new (w.alloc (.cells #[.int .i64 sc, .int .i64 od, .int .i64 th, .int .i64 fu, .int .i64 de] 23)) #[.int .i64 mo, .int .i64 bu, .bool st] 25
  have hk : Kept No w ((w.alloc (.cells #[.int .i64 sc, .int .i64 od, .int .i64 th, .int .i64 fu, .int .i64 de] 23)).alloc (.cells #[.int .i64 mo, .int .i64 bu, .bool st] 25)) := ((Kept.refl _ _).alloc _).alloc _
  simp only [World.size_alloc] at hby
  clear hb h1 h2 hr
  go_enter Tryd.func10, Tryd.ntmps10
  go_upto_region 1 with fail
  generalize (w.alloc (.cells #[.int .i64 sc, .int .i64 od, .int .i64 th, .int .i64 fu, .int .i64 de] 23)).alloc (.cells #[.int .i64 mo, .int .i64 bu, .bool st] 25) = w0 at *
  have c0 : w0.cell? ⟨w.heap.size, 0, none⟩ = some (.int .i64 sc) := hbx.cell 0
  have c1 : w0.cell? ⟨w.heap.size, 1, none⟩ = some (.int .i64 od) := hbx.cell 1
  have c2 : w0.cell? ⟨w.heap.size, 2, none⟩ = some (.int .i64 th) := hbx.cell 2
  have c3 : w0.cell? ⟨w.heap.size, 3, none⟩ = some (.int .i64 fu) := hbx.cell 3
  have c4 : w0.cell? ⟨w.heap.size, 4, none⟩ = some (.int .i64 de) := hbx.cell 4
  have d0 : w0.cell? ⟨w.heap.size + 1, 0, none⟩ = some (.int .i64 mo) := hby.cell 0
  have d1 : w0.cell? ⟨w.heap.size + 1, 1, none⟩ = some (.int .i64 bu) := hby.cell 1
  have d2 : w0.cell? ⟨w.heap.size + 1, 2, none⟩ = some (.bool st) := hby.cell 2
  go_wp2_with fail
  refine (HB.out _).mono ?_
  rintro e w1 ⟨rfl, k1⟩
  have hx1 := hbx.kept k1 id
  have hy1 := hby.kept k1 id
  have hk1 := hk.trans k1 (fun _ _ f => f)
  clear c0 c1 c2 c3 c4 d0 d1 d2 hbx hby hk k1 HB
  simp only [Bool.true_and]
  go_wp2_with fail
  refine (fields_is w.heap.size (w.heap.size + 1) _).mono ?_
  rintro e w2 ⟨bf, rfl, hf2, hbf, k2⟩
  have hx2 := hx1.kept k2 id
  have hy2 := hy1.kept k2 id
  have hk2 := hk1.trans k2 (fun _ _ f => f)
  have hfl := hf2.lt
  have hyl := hy1.lt
  clear hx1 hy1 hk1 k2
  go_wp2_with fail
  obtain ⟨B, hB⟩ : ∃ B, w2.heap.size = B := ⟨_, rfl⟩
  have hBs : B ≤ w2.heap.size := by omega
  have q1 : w.heap.size + 1 < B := by omega
  have q2 : bf < B := by omega
  clear hB hbf hfl hyl
  go_loopw [15, 6] (fun i v wr => ∃ k : Nat, k ≤ 7 ∧ i = .int .i64 k ∧ Seg wr B 5 1 v (confB (fV sc od th fu de mo bu) k).length (bv (confB (fV sc od th fu de mo bu) k)) ∧ Box wr w.heap.size #[.int .i64 sc, .int .i64 od, .int .i64 th, .int .i64 fu, .int .i64 de] 23 ∧ Box wr (w.heap.size + 1) #[.int .i64 mo, .int .i64 bu, .bool st] 25 ∧ Box wr bf (fCells w.heap.size (w.heap.size + 1)) 61 ∧ Kept No w wr ∧ B ≤ wr.heap.size) (fun i _ _ => 7 - (intOf i).toNat)
  case atStart => exact ⟨0, by omega, rfl, Seg.nil _ _ _ _, hx2, hy2, hf2, hk2, hBs⟩
  case round =>
    obtain ⟨k, hk7, rfl, hs, hx, hy, hf, hK, hBw⟩ := hrel
    by_cases hlt : k < 7
    · obtain ⟨p0, p1, p2, p3⟩ := fCells_at w.heap.size (w.heap.size + 1) k hlt
      have e0 : wr.cell? ⟨bf, k * 4, none⟩ = some (.pointer (some ⟨fB w.heap.size (w.heap.size + 1) k, fO k, none⟩)) := (hf.cell _).trans p0
      have e1 : wr.cell? ⟨bf, k * 4 + 1, none⟩ = some (.int .i64 (fW k : Nat)) := (hf.cell _).trans p1
      have e2 : wr.cell? ⟨bf, k * 4 + 2, none⟩ = some (.int .i64 (fLo k)) := (hf.cell _).trans p2
      have e3 : wr.cell? ⟨bf, k * 4 + 3, none⟩ = some (.int .i64 (fHi k)) := (hf.cell _).trans p3
      have i1 : (k : Int) < 7 := by omega
      go_upto_region 7 with fail
      have hf8 := Box.new wr #[.pointer (some ⟨fB w.heap.size (w.heap.size + 1) k, fO k, none⟩), .int .i64 (fW k : Nat), .int .i64 (fLo k), .int .i64 (fHi k)] 61
      have ka : Kept No wr (wr.alloc (.cells #[.pointer (some ⟨fB w.heap.size (w.heap.size + 1) k, fO k, none⟩), .int .i64 (fW k : Nat), .int .i64 (fLo k), .int .i64 (fHi k)] 61)) := (Kept.refl _ _).alloc _
      have hs8 := hs.kept ka (fun _ _ f => f)
      have hx8 := hx.kept ka id
      have hy8 := hy.kept ka id
      have hf9 := hf.kept ka id
      have hK8 := hK.trans ka (fun _ _ f => f)
      have hB8 := Nat.le_trans hBw ka.size
      clear e0 e1 e2 e3 p0 p1 p2 p3 hs hx hy hf hK hBw ka hf2 hx2 hy2 hk2 hBs
      generalize wr.alloc (.cells #[.pointer (some ⟨fB w.heap.size (w.heap.size + 1) k, fO k, none⟩), .int .i64 (fW k : Nat), .int .i64 (fLo k), .int .i64 (fHi k)] 61) = w8 at *
      generalize wr.heap.size = b8 at *
      have c0 := fV_cell hx8 hy8 k hlt
      obtain ⟨r0, r1, r2, r3⟩ := HR.out k
      have hfw := fW_le k
      have hlb : (fB w.heap.size (w.heap.size + 1) k) < w8.heap.size := by unfold fB; split <;> omega
      have hcs := confB_succ (fV sc od th fu de mo bu) k
      have hcl := confB_len (fV sc od th fu de mo bu) k
      obtain ⟨ys, hys⟩ : ∃ ys, confB (fV sc od th fu de mo bu) (k + 1) = ys := ⟨_, rfl⟩
      rw [hys] at hcs
      have HYS := Lib.hid hys
      clear hys
      generalize confB (fV sc od th fu de mo bu) k = xs at *
      have HCS := Lib.hid hcs
      generalize fV sc od th fu de mo bu k = z at *
      generalize fB w.heap.size (w.heap.size + 1) k = bb at *
      generalize fO k = oo at *
      obtain ⟨g0, g1, g2, g3⟩ := KW.box4 hf8
      have d0 : ∀ p : KW w8, p.w.cell? ⟨bb, oo, none⟩ = some (.int .i64 z) := KW.old c0 hlb
      clear hf8 c0 hcs
      refine wp_region_calm_tail 7 (by kernel_rfl) (by kernel_rfl) ?_
      simp only [List.take_succ_cons, List.take_zero, List.drop_succ_cons, List.drop_zero]
      repeat (go_big_quiet_step (fail))
      refine wpQuiet_nil ?_
      rintro _ ⟨p, rfl⟩
      have hs9 := hs8.kept p.h (fun _ _ f => f)
      have hx9 := hx8.kept p.h id
      have hy9 := hy8.kept p.h id
      have hf10 := hf9.kept p.h id
      have hK9 := hK8.trans p.h (fun _ _ f => f)
      have hB9 := Nat.le_trans hB8 p.h.size
      generalize p.w = w9 at *
      clear hs8 hx8 hy8 hf9 hK8 hB8 g0 g1 g2 g3 d0 hlb
      go_wp2_with fail
      refine (putb_is w9 B u6 xs.length xs hs9 hB9 (by omega) z (fW k) (by omega) (by omega) ⟨r2, by omega⟩).mono ?_
      rintro e w10 ⟨v, rfl, hs10, k10, hv10⟩
      have hown : ∀ g, u6.ownBlock = some g → B ≤ g := fun g hg => (hs9.lt g hg).1
      have hx10 := hx9.kept k10 (fun h => by have := hown _ h; omega)
      have hy10 := hy9.kept k10 (fun h => by have := hown _ h; omega)
      have hf11 := hf10.kept k10 (fun h => by have := hown _ h; omega)
      have hK10 := hK9.trans k10 (fun k _ h => by have := hown _ h; omega)
      have hB10 := Nat.le_trans hB9 k10.size
      have hs11 : Seg w10 B 5 1 v ys.length (bv ys) := by
        rw [HCS.out, List.length_append, beB_len]
        exact hs10
      clear hs9 hx9 hy9 hf10 hK9 hB9 k10 hs10 hown hv10
      go_wp2_with fail
      go_roundw
      case rel => exact ⟨k + 1, by omega, by go_num, by rw [HYS.out]; exact hs11, hx10, hy10, hf11, hK10, hB10⟩
      case measure => simp [intOf]; omega
    · obtain rfl : k = 7 := by omega
      have hcl := confB_len (fV sc od th fu de mo bu) 7
      have d0 : wr.cell? ⟨w.heap.size + 1, 2, none⟩ = some (.bool st) := hy.cell 2
      obtain ⟨xs, hxs⟩ : ∃ xs, confB (fV sc od th fu de mo bu) 7 = xs := ⟨_, rfl⟩
      rw [hxs] at hs hcl
      have HXS := Lib.hid hxs
      clear hxs
      have hfin : ∀ (z : Int), (z = 0 ∨ z = 1) → beB z.toNat 1 = [z] := by
        rintro z (rfl | rfl) <;> decide
      cases st with
      | false =>
        go_wp2_with fail
        refine (putb_is wr B u6 xs.length xs hs hBw (by omega) 0 1 (by omega) (by omega) ⟨by omega, by omega⟩).mono ?_
        rintro e w10 ⟨v2, rfl, hs10, k10, hv10⟩
        have hK10 := hK.trans k10 (fun k hk h => by have := (hs.lt _ h).1; omega)
        rw [hfin 0 (.inl rfl)] at hs10
        go_wp2_with fail
        go_ret2
        exact ⟨v2, _, rfl, by unfold putL; rw [HXS.out]; exact hs10.mono (by omega), hK10⟩
      | true =>
        go_wp2_with fail
        refine (putb_is wr B u6 xs.length xs hs hBw (by omega) 1 1 (by omega) (by omega) ⟨by omega, by omega⟩).mono ?_
        rintro e w10 ⟨v2, rfl, hs10, k10, hv10⟩
        have hK10 := hK.trans k10 (fun k hk h => by have := (hs.lt _ h).1; omega)
        rw [hfin 1 (.inr rfl)] at hs10
        go_wp2_with fail
        go_ret2
        exact ⟨v2, _, rfl, by unfold putL; rw [HXS.out]; exact hs10.mono (by omega), hK10⟩
end Go.Proofs.YtknpjhmgkogmaaaDoor.Line
