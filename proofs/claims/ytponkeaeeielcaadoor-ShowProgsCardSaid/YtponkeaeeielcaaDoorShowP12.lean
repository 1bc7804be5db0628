/-
  show.Prog.
-/
import Derived.Test.YtponkeaeeielcaaDoorSay12
import Derived.Test.YtponkeaeeielcaaDoorPc12
import Derived.Test.YtponkeaeeielcaaDoorDynT
import Derived.BigQuiet
set_option linter.unusedVariables false
set_option linter.unusedSimpArgs false
namespace Go.Proofs.YtponkeaeeielcaaDoor.Line
open Go.RowKit Go.Sort Go.Proofs.YtponkeaeeielcaaDoor.Own Go.Proofs.YtponkeaeeielcaaDoor.Conv Go.Proofs.YtponkeaeeielcaaDoor.Calm Go.Proofs.YtponkeaeeielcaaDoor.Open Go.Proofs.YtponkeaeeielcaaDoor.Build

def curT (r c s : Int) (rows : List RowI) (t : Nat) : List UInt8 := headT r c s ++ [10] ++ bodyT rows t
def curI (r c s : Int) (rows : List RowI) (t q : Nat) : List UInt8 := curT r c s rows t ++ (threadW ++ [10] ++ bodyI (insT rows t) q)
theorem cur_start (r c s : Int) (rows : List RowI) : [] ++ (headT r c s ++ [10]) = curT r c s rows 0 := by simp [curT, bodyT]
theorem cur_thread (r c s : Int) (rows : List RowI) (t : Nat) : curT r c s rows t ++ (Lib.join [threadW] [32] ++ [10]) = curI r c s rows t 0 := by simp [curI, bodyI, Lib.join_one]
theorem cur_ins (r c s : Int) (rows : List RowI) (t q : Nat) : curI r c s rows t q ++ (Lib.join [insT rows t q] [32] ++ [10]) = curI r c s rows t (q + 1) := by simp [curI, bodyI, Lib.join_one]
theorem cur_next (r c s : Int) (rows : List RowI) (t : Nat) : curI r c s rows t (lenAt rows t) = curT r c s rows (t + 1) := by simp [curI, curT, bodyT]
theorem curI_len {r c s : Int} {rows : List RowI} (hr : int64 r) (hc : int64 c) (hs : int64 s) (h : ∀ t k, int64 (numAt rows t k)) (g : Good r c s rows) {t q : Nat} (ht : t ≤ 4) (hq : q ≤ lenAt rows t) : (curI r c s rows t q).length ≤ 100000 ∧ (curT r c s rows t).length ≤ 100000 := by
  have := head_len hr hc hs
  have := bodyT_len h g.short t
  have := bodyI_len (ins_len h t) q
  have := g.short t
  simp only [curI, curT, threadW, List.length_append, List.length_cons, List.length_nil]
  omega
theorem keep_say {w1 w3 w4 : World} (hk : Kept No w1 w3) (hb : Below w1.heap.size w3 w4) : Kept No w1 w4 :=
  Kept.of_below ((hk.below (Nat.le_refl _) (fun _ _ => id)).trans hb) (fun k h1 h2 => by omega)
theorem mk_sv1 (w : World) (l : List UInt8) : Rd (w.alloc (.cells #[.string ⟨l.toArray⟩] 9)) 1 (.slice (some ⟨w.heap.size, 0, none⟩) 1 1) 1 (sv [l]) :=
  box_rd (Box.new w #[.string ⟨l.toArray⟩] 9) rfl 1 rfl (by unfold maxLen; omega)

set_option maxRecDepth 100000 in
set_option maxHeartbeats 8000000 in
theorem showprog_is (r c s : Int) (hr : int64 r) (hc : int64 c) (hs : int64 s) (ao : Option Addr) (n cap : Nat) (rows : List RowI) (w : World) (hT : Door.Tabs w) (h : PR w (.slice ao n cap) rows) :
    Calls Tryd.prog 10 #[.agg #[.int .i64 r, .int .i64 c, .int .i64 s, .slice ao n cap]] w fun e w' => ((progE r c s rows ≠ 0 ∧ e = .returned (.tuple #[.string ⟨#[]⟩, .int .i64 (progE r c s rows)])) ∨ (progE r c s rows = 0 ∧ e = .returned (.tuple #[.string ⟨(progT r c s rows).toArray⟩, .int .i64 0]))) ∧ Kept No w w' := by
  obtain ⟨hn, hcap, hm⟩ := h.len
  unfold maxLen at hm
  have hn1 : n ≤ rows.length := by omega
  have hn2 : rows.length ≤ n := by omega
  have hbx := Box.new w #[.int .i64 r, .int .i64 c, .int .i64 s, .slice ao n cap] 33
  have hk : Kept No w (w.alloc (.cells #[.int .i64 r, .int .i64 c, .int .i64 s, .slice ao n cap] 33)) := (Kept.refl _ _).alloc _
  have HX := Lib.hid hbx
  have HK := Lib.hid hk
  have H := Lib.hid (h.kept hk)
  have HT := Lib.hid (hT.kept hk)
  have HR := Lib.hid hr
  have HC := Lib.hid hc
  have HS := Lib.hid hs
  clear hn h hbx hk hr hs hc hT
  go_enter Tryd.func10, Tryd.ntmps10
  go_upto_region 1 with fail
  generalize w.alloc (.cells #[.int .i64 r, .int .i64 c, .int .i64 s, .slice ao n cap] 33) = w0 at *
  have c0 : w0.cell? ⟨w.heap.size, 0, none⟩ = some (.int .i64 r) := HX.out.cell 0
  have c1 : w0.cell? ⟨w.heap.size, 1, none⟩ = some (.int .i64 c) := HX.out.cell 1
  have c2 : w0.cell? ⟨w.heap.size, 2, none⟩ = some (.int .i64 s) := HX.out.cell 2
  have c3 : w0.cell? ⟨w.heap.size, 3, none⟩ = some (.slice ao n cap) := HX.out.cell 3
  go_wp2_with fail
  refine (progcheck_is r c s HR.out HS.out ao n cap rows _ H.out).mono ?_
  rintro e w1 ⟨rfl, k1⟩
  have hk1 := HK.out.trans k1 (fun _ _ f => f)
  have hx1 := HX.out.kept k1 id
  have h1 := H.out.kept k1
  have hT1 := HT.out.kept k1
  have hB := hx1.lt
  clear c0 c1 c2 c3 k1 HX HK H HT
  obtain ⟨ev, hev⟩ : ∃ ev, progE r c s rows = ev := ⟨_, rfl⟩
  rw [hev]
  have HEV := Lib.hid hev
  by_cases h0 : ev = 0
  · subst h0
    have HG := Lib.hid (good_of hev)
    have HK := Lib.hid hk1
    have HX := Lib.hid hx1
    have H := Lib.hid h1
    have HT := Lib.hid hT1
    have e0 : ((0 : Int) != 0) = false := rfl
    clear hev hk1 hx1 h1 hT1
    go_upto_region 6 with fail
    have hb6 := isB_new w1
    have hx6 := HX.out.alloc (.cells #[.pointer none, .slice none 0 0] 50)
    have hk6 : Kept No w1 (w1.alloc (.cells #[.pointer none, .slice none 0 0] 50)) := (Kept.refl _ _).alloc _
    generalize w1.alloc (.cells #[.pointer none, .slice none 0 0] 50) = w6 at *
    obtain ⟨p0, p1, p2, p3⟩ := KW.box4 hx6
    obtain ⟨sr, hsr⟩ : ∃ x : ByteArray, (⟨(Lib.itoa r).toArray⟩ : ByteArray) = x := ⟨_, rfl⟩
    obtain ⟨sc, hsc⟩ : ∃ x : ByteArray, (⟨(Lib.itoa c).toArray⟩ : ByteArray) = x := ⟨_, rfl⟩
    obtain ⟨ss, hss⟩ : ∃ x : ByteArray, (⟨(Lib.itoa s).toArray⟩ : ByteArray) = x := ⟨_, rfl⟩
    have d1 : ∀ p : KW w6, Calls Tryd.prog 17 #[.int .i64 r] p.w fun e w' => e = .returned (.string sr) ∧ Kept No p.w w' := fun p => by rw [← hsr]; exact decimal_is r HR.out.1 HR.out.2 p.w ((HT.out.kept hk6).kept p.h)
    have d2 : ∀ p : KW w6, Calls Tryd.prog 17 #[.int .i64 c] p.w fun e w' => e = .returned (.string sc) ∧ Kept No p.w w' := fun p => by rw [← hsc]; exact decimal_is c HC.out.1 HC.out.2 p.w ((HT.out.kept hk6).kept p.h)
    have d3 : ∀ p : KW w6, Calls Tryd.prog 17 #[.int .i64 s] p.w fun e w' => e = .returned (.string ss) ∧ Kept No p.w w' := fun p => by rw [← hss]; exact decimal_is s HS.out.1 HS.out.2 p.w ((HT.out.kept hk6).kept p.h)
    have HSR := Lib.hid hsr
    have HSC := Lib.hid hsc
    have HSS := Lib.hid hss
    have HB6 := Lib.hid hb6
    have HK6 := Lib.hid hk6
    have D1 := Lib.hid d1
    have D2 := Lib.hid d2
    have D3 := Lib.hid d3
    clear d1 d2 d3 hsr hsc hss hb6 hx6 hk6
    refine wp_region_dyn_tail ([0, 1, 2, 4, 5, 7, 8] ++ 3 :: 6 :: 9 :: 10 :: []) 11 (by kernel_rfl) (by kernel_rfl) (by kernel_rfl) ?_
    refine dyn_reads _ _ (by kernel_rfl) ?_
    simp only [sel, List.filterMap_cons, List.filterMap_nil, List.getElem?_cons_succ, List.getElem?_cons_zero]
    repeat (show wpQuiet _ _ _ _ (_ :: _) _; go_big_quiet_step (fail))
    refine wpQuiet_nil ?_
    clear p0 p1 p2 p3
    refine dyn_fn 17 #[.int .i64 r] rfl rfl rfl (by intro w; go_simp) ?_
    intro p
    refine (D1.out p).mono ?_
    rintro e w2 ⟨rfl, k2⟩
    have hk2 := p.h.trans k2 (fun _ _ f => f)
    refine ⟨_, rfl, k2, ?_⟩
    simp only [Act.put, List.setIfInBounds_toArray, List.set]
    refine dyn_fn 17 #[.int .i64 c] rfl rfl rfl (by intro w; go_simp) ?_
    intro p2
    refine (D2.out ⟨p2.w, hk2.trans p2.h (fun _ _ f => f)⟩).mono ?_
    rintro e w3 ⟨rfl, k3⟩
    have hk3 := (hk2.trans p2.h (fun _ _ f => f)).trans k3 (fun _ _ f => f)
    refine ⟨_, rfl, k3, ?_⟩
    simp only [Act.put, List.setIfInBounds_toArray, List.set]
    refine dyn_fn 17 #[.int .i64 s] rfl rfl rfl (by intro w; go_simp) ?_
    intro p3
    refine (D3.out ⟨p3.w, hk3.trans p3.h (fun _ _ f => f)⟩).mono ?_
    rintro e w4 ⟨rfl, k4⟩
    have hk4 := (hk3.trans p3.h (fun _ _ f => f)).trans k4 (fun _ _ f => f)
    refine ⟨_, rfl, k4, ?_⟩
    simp only [Act.put, List.setIfInBounds_toArray, List.set]
    refine dyn_call rfl rfl rfl ?_
    intro p4
    unfold callW
    go_simp
    refine ⟨(Kept.refl _ _).alloc _, ?_⟩
    have hk5 := hk4.trans p4.h (fun _ _ f => f)
    generalize p4.w = w5 at *
    refine dyn_nil fun p5 => ?_
    have hrd : Rd (w5.alloc (.cells #[.string ⟨#[119, 97, 114, 114, 101, 110, 101, 114]⟩, .string sr, .string sc, .string ss] 9)) 1 (.slice (some ⟨w5.heap.size, 0, none⟩) 4 4) 4 (sv [headW, Lib.itoa r, Lib.itoa c, Lib.itoa s]) :=
      box_rd (Box.new w5 #[.string ⟨#[119, 97, 114, 114, 101, 110, 101, 114]⟩, .string sr, .string sc, .string ss] 9) (by rw [← HSR.out, ← HSC.out, ← HSS.out]; rfl) 4 rfl (by unfold maxLen; omega)
    have hk7 := (hk5.alloc _).trans p5.h (fun _ _ f => f)
    have hrd7 := hrd.kept p5.h (fun _ _ => id)
    have hb8 := HB6.out.kept hk7
    have hk8 := HK6.out.trans hk7 (fun _ _ f => f)
    have HRD := Lib.hid hrd7
    have HB8 := Lib.hid hb8
    have HK8 := Lib.hid hk8
    clear hrd hk7 hrd7 hb8 hk8 hk2 hk3 hk4 hk5 k2 k3 k4 D1 D2 D3 HB6 HK6
    generalize p5.w = w7 at *
    go_wp2_with fail
    refine (say_is w1.heap.size w1.heap.size [] _ HB8.out HK8.out.size _ 4 _ HRD.out (by omega) (by have := head_len HR.out HC.out HS.out; unfold headT at this; omega) (by simp)).mono ?_
    rintro e w9 ⟨rfl, hb9, hbl⟩
    have hk9 := keep_say HK8.out hbl
    rw [show Lib.join [headW, Lib.itoa r, Lib.itoa c, Lib.itoa s] [32] = headT r c s from rfl, cur_start r c s rows] at hb9
    have HB9 := Lib.hid hb9
    clear hb9 hbl HRD HB8 HK8 HSR HSC HSS
    have c3 : w9.cell? ⟨w.heap.size, 3, none⟩ = some (.slice ao n cap) := (HX.out.kept hk9 id).cell 3
    go_wp2_with fail
    go_loopw [34] (fun i wr => ∃ k : Nat, k ≤ n ∧ i = .int .i64 k ∧ Hid (IsB w1.heap.size w1.heap.size (curT r c s rows k) wr) ∧ Kept No w1 wr) (fun i _ => n - (intOf i).toNat)
    case atStart => exact ⟨0, by omega, rfl, HB9, hk9⟩
    case round =>
      obtain ⟨t, ht, rfl, hbt, hK⟩ := hrel
      clear c3 HB9 hk9
      by_cases hlt : t < n
      · obtain ⟨g, o, rfl, hg, hcell⟩ := (H.out.kept hK).head (t := t) (by omega)
        obtain ⟨a2, cp2, hv, h1, h2, hth⟩ := H.out.thread (t := t) (by omega)
        rw [hv] at hcell
        obtain ⟨m, hL⟩ : ∃ m, lenAt rows t = m := ⟨_, rfl⟩
        rw [hL] at hcell h1 hth
        unfold maxLen at h2
        have ht4 : t ≤ 4 := by have := HG.out.few; omega
        have HLen := Lib.hid (fun q (hq : q ≤ lenAt rows t) => curI_len HR.out HC.out HS.out H.out.int HG.out ht4 hq)
        have hrd := mk_sv1 wr threadW
        have hb8 := hbt.out.kept ((Kept.refl No wr).alloc (.cells #[.string ⟨threadW.toArray⟩] 9))
        have hk8 := hK.alloc (.cells #[.string ⟨threadW.toArray⟩] 9)
        rw [show (⟨threadW.toArray⟩ : ByteArray) = ⟨#[116, 104, 114, 101, 97, 100]⟩ from rfl] at hrd hb8 hk8
        have HTH := Lib.hid hth
        have HL := Lib.hid hL
        have HRD := Lib.hid hrd
        have HB8 := Lib.hid hb8
        have HK8 := Lib.hid hk8
        clear hv hL hth hrd hb8 hk8 hK hbt
        go_upto_region 10 with fail
        clear hcell hg
        go_wp2_with fail
        refine (say_is w1.heap.size w1.heap.size _ _ HB8.out HK8.out.size _ 1 _ HRD.out (by omega) (by rw [Lib.join_one]; unfold threadW; simp) (HLen.out 0 (by omega)).2).mono ?_
        rintro e w10 ⟨rfl, hb10, hbl⟩
        have hk10 := keep_say HK8.out hbl
        rw [cur_thread r c s rows t] at hb10
        have HB10 := Lib.hid hb10
        clear hb10 hbl HRD HB8 HK8
        go_wp2_with fail
        go_loopw [43] (fun i wr => ∃ k : Nat, k ≤ m ∧ i = .int .i64 k ∧ Hid (IsB w1.heap.size w1.heap.size (curI r c s rows t k) wr) ∧ Kept No w1 wr) (fun i _ => m - (intOf i).toNat)
        case atStart => exact ⟨0, by omega, rfl, HB10, hk10⟩
        case round =>
          obtain ⟨q, hq, rfl, hbq, hK⟩ := hrel
          clear HB10 hk10
          by_cases hlq : q < m
          · obtain ⟨g2, o2, rfl, hg2, hcs⟩ := HTH.out (by omega)
            obtain ⟨d0, d1, d2, d3, d4⟩ := cells5 hcs hg2 hK hlq
            have hsi := fun w hT => show_in (numAt rows t (q * 5)) (numAt rows t (q * 5 + 1)) (numAt rows t (q * 5 + 2)) (numAt rows t (q * 5 + 3)) (numAt rows t (q * 5 + 4)) (H.out.int _ _) (H.out.int _ _) (H.out.int _ _) (H.out.int _ _) (HG.out.kind t q (by omega) (by rw [HL.out]; exact hlq)) w hT
            rw [show instrT (numAt rows t (q * 5)) (numAt rows t (q * 5 + 1)) (numAt rows t (q * 5 + 2)) (numAt rows t (q * 5 + 3)) (numAt rows t (q * 5 + 4)) = insT rows t q from rfl] at hsi
            obtain ⟨sl, hsl⟩ : ∃ x : ByteArray, (⟨(insT rows t q).toArray⟩ : ByteArray) = x := ⟨_, rfl⟩
            rw [hsl] at hsi
            have HSL := Lib.hid hsl
            have HSI := Lib.hid hsi
            have hIL : (insT rows t q).length ≤ 94 := ins_len H.out.int t q
            clear hcs hg2 hsl hsi
            generalize numAt rows t (q * 5) = z0 at *
            generalize numAt rows t (q * 5 + 1) = z1 at *
            generalize numAt rows t (q * 5 + 2) = z2 at *
            generalize numAt rows t (q * 5 + 3) = z3 at *
            generalize numAt rows t (q * 5 + 4) = z4 at *
            go_upto_region 14 with fail
            have hi2 := Box.new wr #[.int .i64 z0, .int .i64 z1, .int .i64 z2, .int .i64 z3, .int .i64 z4] 23
            have hK2 := hK.alloc (.cells #[.int .i64 z0, .int .i64 z1, .int .i64 z2, .int .i64 z3, .int .i64 z4] 23)
            have hb2 := hbq.out.kept ((Kept.refl No wr).alloc (.cells #[.int .i64 z0, .int .i64 z1, .int .i64 z2, .int .i64 z3, .int .i64 z4] 23))
            have i0 := hi2.cell 0
            have i1 := hi2.cell 1
            have i2 := hi2.cell 2
            have i3 := hi2.cell 3
            have i4 := hi2.cell 4
            simp only [List.getElem?_toArray, List.getElem?_cons_zero, List.getElem?_cons_succ] at i0 i1 i2 i3 i4
            have HB2 := Lib.hid hb2
            have HK2 := Lib.hid hK2
            clear d0 d1 d2 d3 d4 hi2 hb2 hbq hK hK2
            generalize wr.alloc (.cells #[.int .i64 z0, .int .i64 z1, .int .i64 z2, .int .i64 z3, .int .i64 z4] 23) = w2 at *
            generalize wr.heap.size = xb at *
            go_wp2_with fail
            refine (HSI.out _ (HT.out.kept HK2.out)).mono ?_
            rintro e w3 ⟨rfl, k3⟩
            have hK3 := HK2.out.trans k3 (fun _ _ f => f)
            have hb3 := HB2.out.kept k3
            have hrd := mk_sv1 w3 (insT rows t q)
            have hb4 := hb3.kept ((Kept.refl No w3).alloc (.cells #[.string ⟨(insT rows t q).toArray⟩] 9))
            have hk4 := hK3.alloc (.cells #[.string ⟨(insT rows t q).toArray⟩] 9)
            rw [HSL.out] at hrd hb4 hk4
            have HRD := Lib.hid hrd
            have HB4 := Lib.hid hb4
            have HK4 := Lib.hid hk4
            clear i0 i1 i2 i3 i4 k3 hrd hb3 hb4 hk4 hK3 HB2 HK2
            go_wp2_with fail
            refine (say_is w1.heap.size w1.heap.size _ _ HB4.out HK4.out.size _ 1 _ HRD.out (by omega) (by rw [Lib.join_one]; omega) (HLen.out q (by rw [HL.out]; omega)).1).mono ?_
            rintro e w5 ⟨rfl, hb5, hbl⟩
            have hk5 := keep_say HK4.out hbl
            rw [cur_ins r c s rows t q] at hb5
            have HB5 := Lib.hid hb5
            clear hb5 hbl HRD HB4 HK4
            go_wp2_with fail
            go_roundw
            case rel => exact ⟨q + 1, by omega, by go_num, HB5, hk5⟩
            case measure => simp [intOf]; omega
          · obtain rfl : q = m := by omega
            go_wp2_with fail
            go_roundw
            case rel => exact ⟨t + 1, by omega, by go_num, Lib.hid (by rw [← cur_next, HL.out]; exact hbq.out), hK⟩
            case measure => simp [intOf]; omega
      · obtain rfl : t = n := by omega
        have HBE : Hid (IsB w1.heap.size w1.heap.size (progT r c s rows) wr) := Lib.hid (by have := hbt.out; rw [show t = rows.length by omega] at this; exact this)
        have hsz := hK.size
        clear hbt
        go_wp2_with fail
        refine (Tryd.Builder_String_any w1.heap.size w1.heap.size _ wr HBE.out hsz).mono ?_
        rintro e w10 ⟨rfl, hbl⟩
        have hk10 := keep_say hK hbl
        obtain ⟨sp, hsp⟩ : ∃ x : ByteArray, (⟨(progT r c s rows).toArray⟩ : ByteArray) = x := ⟨_, rfl⟩
        rw [hsp]
        have HSP := Lib.hid hsp
        clear hbl hsp
        go_wp2_with fail
        go_ret2
        exact ⟨.inr ⟨HEV.out, by rw [HSP.out]; rfl⟩, HK.out.trans hk10 (fun _ _ f => f)⟩
  · have e0 : (ev != 0) = true := by simp [h0]
    have H0 := Lib.hid h0
    clear h0
    go_wp2_with fail
    go_ret2
    exact ⟨.inl ⟨by rw [HEV.out]; exact H0.out, by rw [HEV.out]; rfl⟩, hk1⟩
end Go.Proofs.YtponkeaeeielcaaDoor.Line
