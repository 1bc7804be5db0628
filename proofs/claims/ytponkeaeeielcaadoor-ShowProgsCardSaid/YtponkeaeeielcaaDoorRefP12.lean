/-
  warrenerref12.Prog, and show.Count.
-/
import Derived.Test.YtponkeaeeielcaaDoorShowP12
import Derived.Test.YtponkeaeeielcaaDoorRefDec
set_option linter.unusedVariables false
set_option linter.unusedSimpArgs false
namespace Go.Proofs.YtponkeaeeielcaaDoor.Line
open Go.RowKit Go.Sort Go.Proofs.YtponkeaeeielcaaDoor.Own Go.Proofs.YtponkeaeeielcaaDoor.Conv Go.Proofs.YtponkeaeeielcaaDoor.Calm Go.Proofs.YtponkeaeeielcaaDoor.Open

theorem cnt_le {rows : List RowI} (h : ∀ t, lenAt rows t ≤ 16) : ∀ t, cntT rows t ≤ 1 + 17 * t
  | 0 => by simp [cntT]
  | t + 1 => by
    have := cnt_le h t
    have := h t
    simp only [cntT]
    omega

set_option maxHeartbeats 2000000 in
theorem count_is (r c s : Int) (ao : Option Addr) (n cap : Nat) (rows : List RowI) (w : World) (h : PR w (.slice ao n cap) rows) (hG : Good r c s rows) :
    Calls Tryd.prog 13 #[.agg #[.int .i64 r, .int .i64 c, .int .i64 s, .slice ao n cap]] w fun e w' => e = .returned (.int .i64 (cntT rows rows.length)) ∧ Kept No w w' := by
  obtain ⟨hn, hcap, hm⟩ := h.len
  unfold maxLen at hm
  have hn1 : n ≤ rows.length := by omega
  have hn2 : rows.length ≤ n := by omega
  have hn4 : n ≤ 4 := by have := hG.few; omega
  have hk : Kept No w (w.alloc (.cells #[.int .i64 r, .int .i64 c, .int .i64 s, .slice ao n cap] 33)) := (Kept.refl _ _).alloc _
  have H := Lib.hid h
  have HC := Lib.hid (cnt_le hG.short)
  have HG := Lib.hid hG
  have HK := Lib.hid hk
  clear hn h hk hG
  go_enter Tryd.func13, Tryd.ntmps13
  go_wp2_with fail
  go_loopw [3, 9] (fun m i wr => ∃ k : Nat, k ≤ n ∧ i = .int .i64 k ∧ m = .int .i64 (cntT rows k) ∧ Kept No w wr) (fun _ i _ => n - (intOf i).toNat)
  case atStart => exact ⟨0, by omega, rfl, rfl, HK.out⟩
  case round =>
    obtain ⟨k, hk, rfl, rfl, hK⟩ := hrel
    by_cases hlt : k < n
    · obtain ⟨g, o, rfl, hg, hcell⟩ := (H.out.kept hK).head (t := k) (by omega)
      obtain ⟨a2, c2, hv, h1, h2, _⟩ := H.out.thread (t := k) (by omega)
      rw [hv] at hcell
      have hc1 := HC.out k
      have hs1 := HG.out.short k
      have hst : cntT rows (k + 1) = cntT rows k + (1 + lenAt rows k) := rfl
      have HST := Lib.hid hst
      clear hv hst
      generalize lenAt rows k = m at *
      generalize cntT rows k = z at *
      unfold maxLen at h2
      go_wp2_with fail
      go_roundw
      case rel => exact ⟨k + 1, by omega, by go_num, by rw [HST.out]; exact congrArg (Value.int .i64) (by omega), hK⟩
      case measure => simp [intOf]; omega
    · obtain rfl : k = n := by omega
      go_wp2_with fail
      go_ret
      exact ⟨by rw [show rows.length = k by omega]; rfl, hK⟩

theorem cat_mk {a b : List UInt8} {x y : ByteArray} (hx : (⟨a.toArray⟩ : ByteArray) = x) (hy : (⟨b.toArray⟩ : ByteArray) = y) : (⟨(a ++ b).toArray⟩ : ByteArray) = x ++ y := by
  rw [← hx, ← hy, app_mk]

set_option maxRecDepth 100000 in
set_option maxHeartbeats 8000000 in
theorem refprogt_is (r c s : Int) (hr : int64 r) (hc : int64 c) (hs : int64 s) (ao : Option Addr) (n cap : Nat) (rows : List RowI) (w : World) (h : PR w (.slice ao n cap) rows) (hG : Good r c s rows) :
    Calls Tryd.prog 12 #[.agg #[.int .i64 r, .int .i64 c, .int .i64 s, .slice ao n cap]] w fun e w' => e = .returned (.string ⟨(progT r c s rows).toArray⟩) ∧ Kept No w w' := by
  obtain ⟨hn, hcap, hm⟩ := h.len
  unfold maxLen at hm
  have hn1 : n ≤ rows.length := by omega
  have hn2 : rows.length ≤ n := by omega
  have hn4 : n ≤ 4 := by have := hG.few; omega
  have hbx := Box.new w #[.int .i64 r, .int .i64 c, .int .i64 s, .slice ao n cap] 33
  have hk : Kept No w (w.alloc (.cells #[.int .i64 r, .int .i64 c, .int .i64 s, .slice ao n cap] 33)) := (Kept.refl _ _).alloc _
  have h0 := h.kept hk
  have HG := Lib.hid hG
  clear hn hG h
  go_enter Tryd.func12, Tryd.ntmps12
  go_upto_region 1 with fail
  generalize w.alloc (.cells #[.int .i64 r, .int .i64 c, .int .i64 s, .slice ao n cap] 33) = w0 at *
  obtain ⟨p0, p1, p2, p3⟩ := KW.box4 hbx
  obtain ⟨sr, hsr⟩ : ∃ x : ByteArray, (⟨(Lib.itoa r).toArray⟩ : ByteArray) = x := ⟨_, rfl⟩
  obtain ⟨sc, hsc⟩ : ∃ x : ByteArray, (⟨(Lib.itoa c).toArray⟩ : ByteArray) = x := ⟨_, rfl⟩
  obtain ⟨ss, hss⟩ : ∃ x : ByteArray, (⟨(Lib.itoa s).toArray⟩ : ByteArray) = x := ⟨_, rfl⟩
  have d1 : ∀ p : KW w0, Calls Tryd.prog 21 #[.int .i64 r] p.w fun e w' => e = .returned (.string sr) ∧ Kept No p.w w' := fun p => by rw [← hsr]; exact refdec_is r hr.1 hr.2 p.w
  have d2 : ∀ p : KW w0, Calls Tryd.prog 21 #[.int .i64 c] p.w fun e w' => e = .returned (.string sc) ∧ Kept No p.w w' := fun p => by rw [← hsc]; exact refdec_is c hc.1 hc.2 p.w
  have d3 : ∀ p : KW w0, Calls Tryd.prog 21 #[.int .i64 s] p.w fun e w' => e = .returned (.string ss) ∧ Kept No p.w w' := fun p => by rw [← hss]; exact refdec_is s hs.1 hs.2 p.w
  have hcat : (⟨(curT r c s rows 0).toArray⟩ : ByteArray) = ⟨#[119, 97, 114, 114, 101, 110, 101, 114, 32]⟩ ++ sr ++ ⟨#[32]⟩ ++ sc ++ ⟨#[32]⟩ ++ ss ++ ⟨#[10]⟩ := by
    rw [show curT r c s rows 0 = headW ++ [32] ++ Lib.itoa r ++ [32] ++ Lib.itoa c ++ [32] ++ Lib.itoa s ++ [10] from by rw [curT, head_eq, bodyT, List.append_nil]]
    exact cat_mk (cat_mk (cat_mk (cat_mk (cat_mk (cat_mk (a := headW ++ [32]) rfl hsr) rfl) hsc) rfl) hss) rfl
  have HCAT := Lib.hid hcat
  have zr : sr.size ≤ 21 := by rw [← hsr]; have := Lib.itoa_length_le r hr.1 hr.2; simpa [ByteArray.size] using this
  have zc : sc.size ≤ 21 := by rw [← hsc]; have := Lib.itoa_length_le c hc.1 hc.2; simpa [ByteArray.size] using this
  have zs : ss.size ≤ 21 := by rw [← hss]; have := Lib.itoa_length_le s hs.1 hs.2; simpa [ByteArray.size] using this
  have HLen := Lib.hid (fun t (ht : t ≤ 4) q (hq : q ≤ lenAt rows t) => curI_len hr hc hs h0.int HG.out ht hq)
  have D1 := Lib.hid d1
  have D2 := Lib.hid d2
  have D3 := Lib.hid d3
  have HX := Lib.hid hbx
  have HK := Lib.hid hk
  have H := Lib.hid h0
  clear d1 d2 d3 hsr hsc hss hbx hk h0 hr hc hs hcat
  refine wp_region_calm (by kernel_rfl) (by kernel_rfl) ?_
  repeat (go_big_quiet_step (first | (go_at_call 21; with_reducible exact calls_of _ (D1.out _)) | (go_at_call 21; with_reducible exact calls_of _ (D2.out _)) | (go_at_call 21; with_reducible exact calls_of _ (D3.out _))))
  refine wpQuiet_nil ?_
  rintro _ ⟨p, rfl⟩
  have hk1 := p.h
  generalize p.w = w1 at *
  clear p0 p1 p2 p3 D1 D2 D3
  have hk2 := HX.out.kept hk1 id
  have c3 : w1.cell? ⟨w.heap.size, 3, none⟩ = some (.slice ao n cap) := hk2.cell 3
  clear hk2
  go_wp2_with fail
  go_loopw [3, 4] (fun m i wr => ∃ (k : Nat) (sx : ByteArray), k ≤ n ∧ i = .int .i64 k ∧ m = .string sx ∧ Hid ((⟨(curT r c s rows k).toArray⟩ : ByteArray) = sx) ∧ Kept No w0 wr) (fun _ i _ => n - (intOf i).toNat)
  case atStart => exact ⟨0, _, by omega, rfl, rfl, HCAT, hk1⟩
  case round =>
    clear HCAT c3 hk1
    obtain ⟨t, sx, ht, rfl, rfl, hsx, hK⟩ := hrel
    have hxr := HX.out.kept hK id
    have c3 : wr.cell? ⟨w.heap.size, 3, none⟩ = some (.slice ao n cap) := hxr.cell 3
    clear hxr
    by_cases hlt : t < n
    · obtain ⟨a2, cp2, hv, h1, h2, hth⟩ := H.out.thread (t := t) (by omega)
      obtain ⟨m, hL⟩ : ∃ m, lenAt rows t = m := ⟨_, rfl⟩
      rw [hL] at hv h1 hth
      unfold maxLen at h2
      have HTH := Lib.hid hth
      have HV := Lib.hid hv
      have HL := Lib.hid hL
      have HK3 := Lib.hid hK
      have it0 : (t : Int) < (n : Int) := by omega
      have hst : (⟨(curI r c s rows t 0).toArray⟩ : ByteArray) = sx ++ ⟨#[116, 104, 114, 101, 97, 100, 10]⟩ := by
        rw [show curI r c s rows t 0 = curT r c s rows t ++ [116, 104, 114, 101, 97, 100, 10] from by simp [curI, bodyI, threadW]]
        exact cat_mk hsx.out rfl
      have HST := Lib.hid hst
      have zx : sx.size ≤ 100000 := by rw [← hsx.out]; have := (HLen.out t (by omega) 0 (by omega)).2; simpa [ByteArray.size] using this
      clear hv hL hth hK hst hsx
      go_wp2_with fail
      clear c3
      go_loopw [3, 5] (fun o i wr => ∃ (k : Nat) (sx : ByteArray), k ≤ m ∧ i = .int .i64 k ∧ o = .string sx ∧ Hid ((⟨(curI r c s rows t k).toArray⟩ : ByteArray) = sx) ∧ Kept No w0 wr) (fun _ i _ => m - (intOf i).toNat)
      case atStart => exact ⟨0, _, by omega, rfl, rfl, HST, HK3.out⟩
      case round =>
        clear HST HK3
        obtain ⟨q, sy, hq, rfl, rfl, hsy, hK⟩ := hrel
        obtain ⟨g, o, rfl, hg, hcell⟩ := (H.out.kept hK).head (t := t) (by omega)
        rw [HV.out] at hcell
        have hxr := HX.out.kept hK id
        have d3 : wr.cell? ⟨w.heap.size, 3, none⟩ = some (.slice (some ⟨g, o, none⟩) n cap) := hxr.cell 3
        clear hxr
        by_cases hlq : q < m
        · obtain ⟨g2, o2, rfl, hg2, hcs⟩ := HTH.out (by omega)
          obtain ⟨d0, d1, d2, d4, d5⟩ := cells5 hcs hg2 hK hlq
          have hsi := fun w => refinstr_is (numAt rows t (q * 5)) (numAt rows t (q * 5 + 1)) (numAt rows t (q * 5 + 2)) (numAt rows t (q * 5 + 3)) (numAt rows t (q * 5 + 4)) (H.out.int _ _) (H.out.int _ _) (H.out.int _ _) (H.out.int _ _) (HG.out.kind t q (by omega) (by rw [HL.out]; exact hlq)) w
          rw [show instrT (numAt rows t (q * 5)) (numAt rows t (q * 5 + 1)) (numAt rows t (q * 5 + 2)) (numAt rows t (q * 5 + 3)) (numAt rows t (q * 5 + 4)) = insT rows t q from rfl] at hsi
          obtain ⟨sl, hsl⟩ : ∃ x : ByteArray, (⟨(insT rows t q).toArray⟩ : ByteArray) = x := ⟨_, rfl⟩
          rw [hsl] at hsi
          have hst : (⟨(curI r c s rows t (q + 1)).toArray⟩ : ByteArray) = sy ++ sl ++ ⟨#[10]⟩ := by
            rw [show curI r c s rows t (q + 1) = curI r c s rows t q ++ insT rows t q ++ [10] from by simp [curI, bodyI]]
            exact cat_mk (cat_mk hsy.out hsl) rfl
          have HST := Lib.hid hst
          have HSI := Lib.hid hsi
          have zy : sy.size ≤ 100000 := by rw [← hsy.out]; have := (HLen.out t (by omega) q (by rw [HL.out]; exact hq)).1; simpa [ByteArray.size] using this
          have zl : sl.size ≤ 94 := by rw [← hsl]; have := ins_len H.out.int t q; simpa [ByteArray.size] using this
          have iq0 : (q : Int) < (m : Int) := by omega
          clear hcs hg2 hsl hsi hst hsy
          generalize numAt rows t (q * 5) = z0 at *
          generalize numAt rows t (q * 5 + 1) = z1 at *
          generalize numAt rows t (q * 5 + 2) = z2 at *
          generalize numAt rows t (q * 5 + 3) = z3 at *
          generalize numAt rows t (q * 5 + 4) = z4 at *
          go_wp2_with fail
          refine (HSI.out _).mono ?_
          rintro e w3 ⟨rfl, k3⟩
          have hK3 := hK.trans k3 (fun _ _ f => f)
          clear d0 d1 d2 d3 d4 d5 hcell hK k3
          go_wp2_with fail
          go_roundw
          case rel => exact ⟨q + 1, _, by omega, by go_num, rfl, HST, hK3⟩
          case measure => simp [intOf]; omega
        · obtain rfl : q = m := by omega
          go_wp2_with fail
          go_roundw
          case rel => exact ⟨t + 1, _, by omega, by go_num, rfl, Lib.hid (by rw [← cur_next, HL.out]; exact hsy.out), hK⟩
          case measure => simp [intOf]; omega
    · obtain rfl : t = n := by omega
      have hfin : (⟨(progT r c s rows).toArray⟩ : ByteArray) = sx := by have := hsx.out; rw [show t = rows.length by omega] at this; exact this
      have HF := Lib.hid hfin
      clear hfin
      go_wp2_with fail
      go_ret
      exact ⟨by rw [HF.out]; rfl, HK.out.trans hK (fun _ _ f => f)⟩
end Go.Proofs.YtponkeaeeielcaaDoor.Line
