/-
  An instruction's line, as the code tells it.
-/
import Derived.Test.YtponkeaeeielcaaDoorShow
import Derived.BigQuiet
set_option linter.unusedVariables false
set_option linter.unusedSimpArgs false
namespace Go.Proofs.YtponkeaeeielcaaDoor.Line
open Go.RowKit Go.Sort Go.Proofs.YtponkeaeeielcaaDoor.Own Go.Proofs.YtponkeaeeielcaaDoor.Conv

theorem idx0 (a b c n : Int) (w : World) : (Instr.index 43 (.agg #[.int .i64 a, .int .i64 b, .int .i64 c, .int .i64 n]) (.int .i64 0)).run Tryd.prog w = .ok (.int .i64 a) w := by kernel_rfl
theorem idx1 (a b c n : Int) (w : World) : (Instr.index 43 (.agg #[.int .i64 a, .int .i64 b, .int .i64 c, .int .i64 n]) (.int .i64 1)).run Tryd.prog w = .ok (.int .i64 b) w := by kernel_rfl
theorem idx2 (a b c n : Int) (w : World) : (Instr.index 43 (.agg #[.int .i64 a, .int .i64 b, .int .i64 c, .int .i64 n]) (.int .i64 2)).run Tryd.prog w = .ok (.int .i64 c) w := by kernel_rfl
theorem idx3 (a b c n : Int) (w : World) : (Instr.index 43 (.agg #[.int .i64 a, .int .i64 b, .int .i64 c, .int .i64 n]) (.int .i64 3)).run Tryd.prog w = .ok (.int .i64 n) w := by kernel_rfl

set_option maxHeartbeats 4000000 in
theorem show_out (z a b c n : Int) (hin : ¬ (1 ≤ z ∧ z ≤ 25)) (w : World) :
    Calls Tryd.prog 6 #[.agg #[.int .i64 z, .int .i64 a, .int .i64 b, .int .i64 c, .int .i64 n]] w fun e w' => e = .returned (.tuple #[.string ⟨#[]⟩, .int .i64 2]) ∧ Kept No w w' := by
  have hsh := shapeZ_out hin
  have HSH := Lib.hid hsh
  clear hsh hin
  go_enter Tryd.func6, Tryd.ntmps6
  go_wp2_with fail
  refine (opshape_is z _).mono ?_
  rw [HSH.out]
  rintro e w1 ⟨rfl, k1⟩
  have hk1 : Kept No w w1 := ((Kept.refl _ _).alloc _).trans k1 (fun _ _ f => f)
  clear k1
  go_wp2_with fail
  go_ret2
  exact ⟨rfl, hk1⟩

set_option maxRecDepth 100000 in
set_option maxHeartbeats 4000000 in
theorem show_in (z a b c n : Int) (ha : int64 a) (hb : int64 b) (hc : int64 c) (hn : int64 n) (hin : 1 ≤ z ∧ z ≤ 25) (w : World) (hT : Door.Tabs w) :
    Calls Tryd.prog 6 #[.agg #[.int .i64 z, .int .i64 a, .int .i64 b, .int .i64 c, .int .i64 n]] w fun e w' => e = .returned (.tuple #[.string ⟨(instrT z a b c n).toArray⟩, .int .i64 0]) ∧ Kept No w w' := by
  obtain ⟨i0, hi, hz0, hz1, hz2⟩ := info_parts info_string
  have hs4 := shape_four hin
  obtain ⟨ss, hss⟩ : ∃ s : ByteArray, (⟨(shapeZ z).toArray⟩ : ByteArray) = s := ⟨_, rfl⟩
  obtain ⟨sn, hsn⟩ : ∃ s : ByteArray, (⟨(nameZ z).toArray⟩ : ByteArray) = s := ⟨_, rfl⟩
  have hsz : ss.size = 4 := by rw [← hss]; simp [ByteArray.size, hs4]
  have hget : ∀ k (h : k < ss.size) (h2 : k < (shapeZ z).length), ss[k]'h = (shapeZ z)[k] := by subst hss; intro k h h2; rfl
  have hne : ss.toList.isEmpty = false := by
    rw [toList_mk2 hss]
    cases h : shapeZ z with
    | nil => rw [h] at hs4; cases hs4
    | cons x r => rfl
  have Hget := Lib.hid hget
  have HSS := Lib.hid hss
  have HSN := Lib.hid hsn
  have Hs4 := Lib.hid hs4
  have hs1 : ss.size ≤ 4 := by omega
  have hs2 : 4 ≤ ss.size := by omega
  have HL := Lib.hid (line_len (z := z) ha hb hc hn 4 (by omega))
  have HF := Lib.hid (fun i => fld_bd ha hb hc hn i)
  have HT := Lib.hid hT
  clear hget hss hsn hs4 hsz hin ha hb hc hn hT
  go_enter Tryd.func6, Tryd.ntmps6
  go_wp2_with fail
  refine (opshape_is z _).mono ?_
  rw [HSS.out]
  rintro e w1 ⟨rfl, k1⟩
  have hx1 : Box w1 w.heap.size #[.int .i64 z, .int .i64 a, .int .i64 b, .int .i64 c, .int .i64 n] 23 := (Box.new w _ _).kept k1 id
  have hk1 : Kept No w w1 := ((Kept.refl _ _).alloc _).trans k1 (fun _ _ f => f)
  clear k1
  have c0 : w1.cell? ⟨w.heap.size, 0, none⟩ = some (.int .i64 z) := hx1.cell 0
  go_wp2_with fail
  refine (opname_is z _).mono ?_
  rw [HSN.out]
  rintro e w2 ⟨rfl, k2⟩
  have hx2 := hx1.kept k2 id
  have hk2 := hk1.trans k2 (fun _ _ f => f)
  have hz2' := hk2.size
  clear k2 hx1 hk1 c0
  have hx3 : Box (w2.alloc (.cells #[.string sn] 9)) w.heap.size #[.int .i64 z, .int .i64 a, .int .i64 b, .int .i64 c, .int .i64 n] 23 := hx2.alloc _
  have hk3 : Kept No w (w2.alloc (.cells #[.string sn] 9)) := hk2.alloc _
  have hs3 : Seg (w2.alloc (.cells #[.string sn] 9)) w.heap.size 9 1 (.slice (some ⟨w2.heap.size, 0, none⟩) 1 1) (lineW z a b c n 0).length (sv (lineW z a b c n 0)) := by
    refine ⟨by rw [sv_len]; simp [lineW], .inr ⟨w2.heap.size, 0, 1, #[.string sn], rfl, hz2', (Box.new w2 _ _).blk, Nat.le_refl _, by unfold maxLen; omega, by simp, fun j hj => ?_⟩⟩
    have : j = 0 := by simpa [lineW] using hj
    subst this
    rw [lineW, ← HSN.out]
    rfl
  have c0 : (w2.alloc (.cells #[.string sn] 9)).cell? ⟨w.heap.size, 0, none⟩ = some (.int .i64 z) := hx3.cell 0
  have c1 : (w2.alloc (.cells #[.string sn] 9)).cell? ⟨w.heap.size, 1, none⟩ = some (.int .i64 a) := hx3.cell 1
  have c2 : (w2.alloc (.cells #[.string sn] 9)).cell? ⟨w.heap.size, 2, none⟩ = some (.int .i64 b) := hx3.cell 2
  have c3 : (w2.alloc (.cells #[.string sn] 9)).cell? ⟨w.heap.size, 3, none⟩ = some (.int .i64 c) := hx3.cell 3
  have c4 : (w2.alloc (.cells #[.string sn] 9)).cell? ⟨w.heap.size, 4, none⟩ = some (.int .i64 n) := hx3.cell 4
  have Hs3 := Lib.hid hs3
  clear hx2 hk2 hx3 hs3
  go_wp2_with fail
  go_loopw [5, 26] (fun o i wr => ∃ k : Nat, k ≤ 4 ∧ i = .int .i64 k ∧ Seg wr w.heap.size 9 1 o (lineW z a b c n k).length (sv (lineW z a b c n k)) ∧ Kept No w wr) (fun _ i _ => 4 - (intOf i).toNat)
  case atStart => exact ⟨0, by omega, rfl, Hs3.out, hk3⟩
  case round =>
    obtain ⟨k, hk, rfl, hseg, hK⟩ := hrel
    clear c0 c1 c2 c3 c4 hk3 Hs3
    have hz := hK.size
    have hll := (lineW_len z a b c n k).2
    by_cases hlt : k < 4
    · have hlt2 : k < ss.size := by omega
      have hg := Hget.out k hlt2 (by rw [Hs4.out]; omega)
      have hlw : lineW z a b c n (k + 1) = lineW z a b c n k ++ (if (shapeZ z)[k]'(by rw [Hs4.out]; omega) = 45 then [] else [Lib.itoa (fldZ a b c n k)]) := by
        rw [lineW, List.getElem?_eq_getElem (by rw [Hs4.out]; omega)]
        simp
      generalize (shapeZ z)[k]'(by rw [Hs4.out]; omega) = ch at *
      by_cases h45 : ch = 45
      · have hcc : (((ss[k]'hlt2).toNat : Int) != 45) = false := by rw [hg, h45]; rfl
        have hnew : Hid (lineW z a b c n (k + 1) = lineW z a b c n k) := Lib.hid (by rw [hlw, if_pos h45, List.append_nil])
        have Hseg := Lib.hid hseg
        clear hg hlw h45 hseg
        have hk4 : k = 0 ∨ k = 1 ∨ k = 2 ∨ k = 3 := by omega
        rcases hk4 with rfl | rfl | rfl | rfl
        all_goals
          simp only [Int.natCast_zero, Int.natCast_one, Int.cast_ofNat_Int]
          go_wp2_with fail
          first | rw [idx0] | rw [idx1] | rw [idx2] | rw [idx3]
          go_wp2_with fail
          go_roundw
          case rel => exact ⟨_ + 1, by omega, rfl, by rw [hnew.out]; exact Hseg.out, hK⟩
          case measure => simp [intOf]
      · have hcc : (((ss[k]'hlt2).toNat : Int) != 45) = true := by
          rw [hg, bne_iff_ne]; intro e; exact h45 (UInt8.toNat_inj.1 (Int.ofNat.inj e))
        have hnew : Hid (lineW z a b c n (k + 1) = lineW z a b c n k ++ [Lib.itoa (fldZ a b c n k)]) := Lib.hid (by rw [hlw, if_neg h45])
        have hf := HF.out (k : Int)
        obtain ⟨sx, hsx⟩ : ∃ s : ByteArray, (⟨(Lib.itoa (fldZ a b c n k)).toArray⟩ : ByteArray) = s := ⟨_, rfl⟩
        have hvx : sv [Lib.itoa (fldZ a b c n k)] = [.string sx] := by rw [← hsx]; rfl
        have HX := Lib.hid hsx
        have HV := Lib.hid hvx
        have Hf := Lib.hid hf
        have Hseg := Lib.hid hseg
        clear hg hlw h45 hvx hsx hf hseg
        have hk4 : k = 0 ∨ k = 1 ∨ k = 2 ∨ k = 3 := by omega
        rcases hk4 with rfl | rfl | rfl | rfl
        all_goals
          simp only [Int.natCast_zero, Int.natCast_one, Int.cast_ofNat_Int]
          go_wp2_with fail
          first | rw [idx0] | rw [idx1] | rw [idx2] | rw [idx3]
          go_wp2_with fail
          refine (decimal_is _ Hf.out.1 Hf.out.2 wr (HT.out.kept hK)).mono ?_
          rw [HX.out]
          rintro e w4 ⟨rfl, k4⟩
          have hseg4 := Hseg.out.kept k4 (fun _ _ => id)
          have hK4 := hK.trans k4 (fun _ _ f => f)
          have hz4 := hK4.size
          clear k4 Hseg
          go_wp2_with (at_builtin; refine wpList_append_seg rfl _ _ 39 rfl w.heap.size 9 i0 (.string ⟨#[]⟩) 1 16 Tryd.underlying39 hi hz0 hz1 hz2 rfl (by decide) _ _ _ rfl (hseg4.kept ((Kept.refl No _).alloc _) (fun _ _ f => f.elim)) ⟨_, 0, none⟩ 1 1 [.string sx] rfl rfl (cell_one _ _ _) (fun u hu => by simp at hu; subst hu; rfl) (by unfold maxLen; omega) (by omega) (by simp; omega) ?_)
          intro v3 w3 hs3 hg3 hb3
          have hK3 : Kept No w w3 := (hK4.alloc (.cells #[.string sx] 9)).grown hg3 (fun g hlt hg => by have := (hseg4.lt g hg).1; omega)
          have Hs3 := Lib.hid hs3
          clear hs3 hg3 hb3 hseg4
          go_wp2_with fail
          go_roundw
          case rel =>
            refine ⟨_ + 1, by omega, rfl, ?_, hK3⟩
            have h3 := Hs3.out
            rw [← HV.out] at h3
            rw [hnew.out, List.length_append, sv_app]
            exact h3
          case measure => simp [intOf]
    · obtain rfl : k = 4 := by omega
      have Hseg := Lib.hid hseg
      clear hseg
      simp only [Int.cast_ofNat_Int]
      go_wp2_with fail
      refine (join_is wr _ _ _ Hseg.out.rd (by omega) (by have := HL.out; omega)).mono ?_
      rintro e w3 ⟨rfl, k3⟩
      have hK3 := hK.trans k3 (fun _ _ f => f)
      go_wp2_with fail
      go_ret2
      exact ⟨rfl, hK3⟩
end Go.Proofs.YtponkeaeeielcaaDoor.Line
