/-
  warrenerref12.Prog. warrenerplain.Code and warrenerplain.Prog, of two that are the same. asm.Parse of a text whose lines leave a program's numbers: the program back.
-/
import Derived.Test.YtjpddfnkamahfaaDoorText12
import Derived.Test.YtjpddfnkamahfaaDoorRefDec
import Derived.Test.YtjpddfnkamahfaaDoorShow2
import Derived.Test.YtjpddfnkamahfaaDoorCalm
import Derived.Test.YtjpddfnkamahfaaDoorPc12
import Derived.BigQuiet
import Derived.Test.YtjpddfnkamahfaaDoorLive13
set_option linter.unusedVariables false
set_option linter.unusedSimpArgs false
namespace Go.Proofs.YtjpddfnkamahfaaDoor.Line
open Go.RowKit Go.Sort Go.Proofs.YtjpddfnkamahfaaDoor.Own Go.Proofs.YtjpddfnkamahfaaDoor.Conv Go.Proofs.YtjpddfnkamahfaaDoor.Calm Go.Proofs.YtjpddfnkamahfaaDoor.Open

def curT (r c s : Int) (rows : List RowI) (t : Nat) : List UInt8 := headT r c s ++ [10] ++ bodyT rows t
def curI (r c s : Int) (rows : List RowI) (t q : Nat) : List UInt8 := curT r c s rows t ++ (threadW ++ [10] ++ bodyI (insT rows t) q)
theorem cur_start (r c s : Int) (rows : List RowI) : [] ++ (headT r c s ++ [10]) = curT r c s rows 0 := by simp [curT, bodyT]
theorem cur_thread (r c s : Int) (rows : List RowI) (t : Nat) : curT r c s rows t ++ (Lib.join [threadW] [32] ++ [10]) = curI r c s rows t 0 := by simp [curI, bodyI, Lib.join_one]
theorem cur_ins (r c s : Int) (rows : List RowI) (t q : Nat) : curI r c s rows t q ++ (Lib.join [insT rows t q] [32] ++ [10]) = curI r c s rows t (q + 1) := by simp [curI, bodyI, Lib.join_one]
theorem cur_next (r c s : Int) (rows : List RowI) (t : Nat) : curI r c s rows t (lenAt rows t) = curT r c s rows (t + 1) := by simp [curI, curT, bodyT]
theorem curI_len {r c s : Int} {rows : List RowI} (hr : int64 r) (hc : int64 c) (hs : int64 s) (h : ∀ t k, int64 (numAt rows t k)) (g : Good r c s rows) {t q : Nat} (ht : t ≤ 4) (hq : q ≤ lenAt rows t) : (curI r c s rows t q).length ≤ 100000 ∧ (curT r c s rows t).length ≤ 100000 := by
  have := head_len hr hc hs
  have := bodyT_len h g.short t
  have := bodyI_len (ins_len h t) q
  have := g.short t
  simp only [curI, curT, threadW, List.length_append, List.length_cons, List.length_nil]
  omega
theorem cat_mk {a b : List UInt8} {x y : ByteArray} (hx : (⟨a.toArray⟩ : ByteArray) = x) (hy : (⟨b.toArray⟩ : ByteArray) = y) : (⟨(a ++ b).toArray⟩ : ByteArray) = x ++ y := by
  rw [← hx, ← hy, app_mk]

set_option maxRecDepth 100000 in
set_option maxHeartbeats 8000000 in
theorem refprogt_is (r c s : Int) (hr : int64 r) (hc : int64 c) (hs : int64 s) (ao : Option Addr) (n cap : Nat) (rows : List RowI) (w : World) (h : PR w (.slice ao n cap) rows) (hG : Good r c s rows) :
    Calls Tryd.prog 12 #[.agg #[.int .i64 r, .int .i64 c, .int .i64 s, .slice ao n cap]] w fun e w' => e = .returned (.string ⟨(progT r c s rows).toArray⟩) ∧ Kept No w w' := by
  obtain ⟨hn, hcap, hm⟩ := h.len
  unfold maxLen at hm
  have hn1 : n ≤ rows.length := by omega
  have hn2 : rows.length ≤ n := by omega
  have hn4 : n ≤ 4 := by have := hG.few; omega
  have hbx := Box.new w #[.int .i64 r, .int .i64 c, .int .i64 s, .slice ao n cap] 32
  have hk : Kept No w (w.alloc (.cells #[.int .i64 r, .int .i64 c, .int .i64 s, .slice ao n cap] 32)) := (Kept.refl _ _).alloc _
  have h0 := h.kept hk
  have HG := Lib.hid hG
  clear hn hG h
  go_enter Tryd.func12, Tryd.ntmps12
  go_upto_region 1 with fail
  generalize w.alloc (.cells #[.int .i64 r, .int .i64 c, .int .i64 s, .slice ao n cap] 32) = w0 at *
  obtain ⟨p0, p1, p2, p3⟩ := KW.box4 hbx
  obtain ⟨sr, hsr⟩ : ∃ x : ByteArray, (⟨(Lib.itoa r).toArray⟩ : ByteArray) = x := ⟨_, rfl⟩
  obtain ⟨sc, hsc⟩ : ∃ x : ByteArray, (⟨(Lib.itoa c).toArray⟩ : ByteArray) = x := ⟨_, rfl⟩
  obtain ⟨ss, hss⟩ : ∃ x : ByteArray, (⟨(Lib.itoa s).toArray⟩ : ByteArray) = x := ⟨_, rfl⟩
  have d1 : ∀ p : KW w0, Calls Tryd.prog 28 #[.int .i64 r] p.w fun e w' => e = .returned (.string sr) ∧ Kept No p.w w' := fun p => by rw [← hsr]; exact refdec_is r hr.1 hr.2 p.w
  have d2 : ∀ p : KW w0, Calls Tryd.prog 28 #[.int .i64 c] p.w fun e w' => e = .returned (.string sc) ∧ Kept No p.w w' := fun p => by rw [← hsc]; exact refdec_is c hc.1 hc.2 p.w
  have d3 : ∀ p : KW w0, Calls Tryd.prog 28 #[.int .i64 s] p.w fun e w' => e = .returned (.string ss) ∧ Kept No p.w w' := fun p => by rw [← hss]; exact refdec_is s hs.1 hs.2 p.w
  have hcat : (⟨(curT r c s rows 0).toArray⟩ : ByteArray) = ⟨#[119, 97, 114, 114, 101, 110, 101, 114, 32]⟩ ++ sr ++ ⟨#[32]⟩ ++ sc ++ ⟨#[32]⟩ ++ ss ++ ⟨#[10]⟩ := by
    rw [show curT r c s rows 0 = headW ++ [32] ++ Lib.itoa r ++ [32] ++ Lib.itoa c ++ [32] ++ Lib.itoa s ++ [10] from by rw [curT, head_eq, bodyT, List.append_nil]]
    exact cat_mk (cat_mk (cat_mk (cat_mk (cat_mk (cat_mk (a := headW ++ [32]) rfl hsr) rfl) hsc) rfl) hss) rfl
  have HCAT := Lib.hid hcat
  have zr : sr.size ≤ 21 := by rw [← hsr]; have := Lib.itoa_length_le r hr.1 hr.2; simpa [ByteArray.size] using this
  have zc : sc.size ≤ 21 := by rw [← hsc]; have := Lib.itoa_length_le c hc.1 hc.2; simpa [ByteArray.size] using this
  have zs : ss.size ≤ 21 := by rw [← hss]; have := Lib.itoa_length_le s hs.1 hs.2; simpa [ByteArray.size] using this
  have HLen := Lib.hid (fun t (ht : t ≤ 4) q (hq : q ≤ lenAt rows t) => curI_len hr hc hs h0.int HG.out ht hq)
  have D1 := Lib.hid d1
  have D2 := Lib.hid d2
  have D3 := Lib.hid d3
  have HX := Lib.hid hbx
  have HK := Lib.hid hk
  have H := Lib.hid h0
  clear d1 d2 d3 hsr hsc hss hbx hk h0 hr hc hs hcat
  refine wp_region_calm (by kernel_rfl) (by kernel_rfl) ?_
  repeat (go_big_quiet_step (first | (go_at_call 28; with_reducible exact calls_of _ (D1.out _)) | (go_at_call 28; with_reducible exact calls_of _ (D2.out _)) | (go_at_call 28; with_reducible exact calls_of _ (D3.out _))))
  refine wpQuiet_nil ?_
  rintro _ ⟨p, rfl⟩
  have hk1 := p.h
  generalize p.w = w1 at *
  clear p0 p1 p2 p3 D1 D2 D3
  have hk2 := HX.out.kept hk1 id
  have c3 : w1.cell? ⟨w.heap.size, 3, none⟩ = some (.slice ao n cap) := hk2.cell 3
  clear hk2
  go_wp2_with fail
  go_loopw [3, 4] (fun m i wr => ∃ (k : Nat) (sx : ByteArray), k ≤ n ∧ i = .int .i64 k ∧ m = .string sx ∧ Hid ((⟨(curT r c s rows k).toArray⟩ : ByteArray) = sx) ∧ Kept No w0 wr) (fun _ i _ => n - (intOf i).toNat)
  case atStart => exact ⟨0, _, by omega, rfl, rfl, HCAT, hk1⟩
  case round =>
    clear HCAT c3 hk1
    obtain ⟨t, sx, ht, rfl, rfl, hsx, hK⟩ := hrel
    have hxr := HX.out.kept hK id
    have c3 : wr.cell? ⟨w.heap.size, 3, none⟩ = some (.slice ao n cap) := hxr.cell 3
    clear hxr
    by_cases hlt : t < n
    · obtain ⟨a2, cp2, hv, h1, h2, hth⟩ := H.out.thread (t := t) (by omega)
      obtain ⟨m, hL⟩ : ∃ m, lenAt rows t = m := ⟨_, rfl⟩
      rw [hL] at hv h1 hth
      unfold maxLen at h2
      have HTH := Lib.hid hth
      have HV := Lib.hid hv
      have HL := Lib.hid hL
      have HK3 := Lib.hid hK
      have it0 : (t : Int) < (n : Int) := by omega
      have hst : (⟨(curI r c s rows t 0).toArray⟩ : ByteArray) = sx ++ ⟨#[116, 104, 114, 101, 97, 100, 10]⟩ := by
        rw [show curI r c s rows t 0 = curT r c s rows t ++ [116, 104, 114, 101, 97, 100, 10] from by simp [curI, bodyI, threadW]]
        exact cat_mk hsx.out rfl
      have HST := Lib.hid hst
      have zx : sx.size ≤ 100000 := by rw [← hsx.out]; have := (HLen.out t (by omega) 0 (by omega)).2; simpa [ByteArray.size] using this
      clear hv hL hth hK hst hsx
      go_wp2_with fail
      clear c3
      go_loopw [3, 5] (fun o i wr => ∃ (k : Nat) (sx : ByteArray), k ≤ m ∧ i = .int .i64 k ∧ o = .string sx ∧ Hid ((⟨(curI r c s rows t k).toArray⟩ : ByteArray) = sx) ∧ Kept No w0 wr) (fun _ i _ => m - (intOf i).toNat)
      case atStart => exact ⟨0, _, by omega, rfl, rfl, HST, HK3.out⟩
      case round =>
        clear HST HK3
        obtain ⟨q, sy, hq, rfl, rfl, hsy, hK⟩ := hrel
        obtain ⟨g, o, rfl, hg, hcell⟩ := (H.out.kept hK).head (t := t) (by omega)
        rw [HV.out] at hcell
        have hxr := HX.out.kept hK id
        have d3 : wr.cell? ⟨w.heap.size, 3, none⟩ = some (.slice (some ⟨g, o, none⟩) n cap) := hxr.cell 3
        clear hxr
        by_cases hlq : q < m
        · obtain ⟨g2, o2, rfl, hg2, hcs⟩ := HTH.out (by omega)
          obtain ⟨d0, d1, d2, d4, d5⟩ := cells5 hcs hg2 hK hlq
          have hsi := fun w => refinstr_is (numAt rows t (q * 5)) (numAt rows t (q * 5 + 1)) (numAt rows t (q * 5 + 2)) (numAt rows t (q * 5 + 3)) (numAt rows t (q * 5 + 4)) (H.out.int _ _) (H.out.int _ _) (H.out.int _ _) (H.out.int _ _) (HG.out.kind t q (by omega) (by rw [HL.out]; exact hlq)) w
          rw [show instrT (numAt rows t (q * 5)) (numAt rows t (q * 5 + 1)) (numAt rows t (q * 5 + 2)) (numAt rows t (q * 5 + 3)) (numAt rows t (q * 5 + 4)) = insT rows t q from rfl] at hsi
          obtain ⟨sl, hsl⟩ : ∃ x : ByteArray, (⟨(insT rows t q).toArray⟩ : ByteArray) = x := ⟨_, rfl⟩
          rw [hsl] at hsi
          have hst : (⟨(curI r c s rows t (q + 1)).toArray⟩ : ByteArray) = sy ++ sl ++ ⟨#[10]⟩ := by
            rw [show curI r c s rows t (q + 1) = curI r c s rows t q ++ insT rows t q ++ [10] from by simp [curI, bodyI]]
            exact cat_mk (cat_mk hsy.out hsl) rfl
          have HST := Lib.hid hst
          have HSI := Lib.hid hsi
          have zy : sy.size ≤ 100000 := by rw [← hsy.out]; have := (HLen.out t (by omega) q (by rw [HL.out]; exact hq)).1; simpa [ByteArray.size] using this
          have zl : sl.size ≤ 94 := by rw [← hsl]; have := ins_len H.out.int t q; simpa [ByteArray.size] using this
          have iq0 : (q : Int) < (m : Int) := by omega
          clear hcs hg2 hsl hsi hst hsy
          generalize numAt rows t (q * 5) = z0 at *
          generalize numAt rows t (q * 5 + 1) = z1 at *
          generalize numAt rows t (q * 5 + 2) = z2 at *
          generalize numAt rows t (q * 5 + 3) = z3 at *
          generalize numAt rows t (q * 5 + 4) = z4 at *
          go_wp2_with fail
          refine (HSI.out _).mono ?_
          rintro e w3 ⟨rfl, k3⟩
          have hK3 := hK.trans k3 (fun _ _ f => f)
          clear d0 d1 d2 d3 d4 d5 hcell hK k3
          go_wp2_with fail
          go_roundw
          case rel => exact ⟨q + 1, _, by omega, by go_num, rfl, HST, hK3⟩
          case measure => simp [intOf]; omega
        · obtain rfl : q = m := by omega
          go_wp2_with fail
          go_roundw
          case rel => exact ⟨t + 1, _, by omega, by go_num, rfl, Lib.hid (by rw [← cur_next, HL.out]; exact hsy.out), hK⟩
          case measure => simp [intOf]; omega
    · obtain rfl : t = n := by omega
      have hfin : (⟨(progT r c s rows).toArray⟩ : ByteArray) = sx := by have := hsx.out; rw [show t = rows.length by omega] at this; exact this
      have HF := Lib.hid hfin
      clear hfin
      go_wp2_with fail
      go_ret
      exact ⟨by rw [HF.out]; rfl, HK.out.trans hK (fun _ _ f => f)⟩
end Go.Proofs.YtjpddfnkamahfaaDoor.Line

set_option linter.unusedVariables false
set_option linter.unusedSimpArgs false
namespace Go.Proofs.YtjpddfnkamahfaaDoor.Line
open Go.RowKit Go.Sort Go.Proofs.YtjpddfnkamahfaaDoor.Own Go.Proofs.YtjpddfnkamahfaaDoor.Conv Go.Proofs.YtjpddfnkamahfaaDoor.Calm Go.Proofs.YtjpddfnkamahfaaDoor.Open

theorem rd5 {w : World} {v : Value} {n : Nat} {xs : List Int} (h : Rd w 5 v n (vals xs)) : ∃ ao cap, v = .slice ao n cap ∧ n ≤ cap ∧ cap ≤ maxLen ∧ (0 < n → ∃ g o, ao = some ⟨g, o, none⟩ ∧ g < w.heap.size ∧ ∀ k, k < n * 5 → w.cell? ⟨g, o + k, none⟩ = some (.int .i64 (xs[k]?.getD 0))) := by
  obtain ⟨hl, ao, cap, rfl, hc, hm, -, hR⟩ := h
  rw [vals_len] at hl
  refine ⟨ao, cap, rfl, hc, hm, fun h0 => ?_⟩
  obtain ⟨g, o, rfl, hg, hcell⟩ := hR h0
  refine ⟨g, o, rfl, hg, fun k hk => hcell k _ ?_⟩
  rw [vals, List.getElem?_map, List.getElem?_eq_getElem (by omega)]
  rfl

set_option maxRecDepth 100000 in
set_option maxHeartbeats 4000000 in
theorem plaincode_is (w : World) (v u : Value) (n : Nat) (xs : List Int) (hx : Rd w 5 v n (vals xs)) (hy : Rd w 5 u n (vals xs)) :
    Calls Tryd.prog 33 #[v, u] w fun e w' => e = .returned (.bool true) ∧ Kept No w w' := by
  obtain ⟨ao, cap, rfl, hc, hm, hR⟩ := rd5 hx
  obtain ⟨ao2, cap2, rfl, hc2, hm2, hR2⟩ := rd5 hy
  unfold maxLen at hm hm2
  have HR := Lib.hid hR
  have HR2 := Lib.hid hR2
  clear hx hy hR hR2
  have hb : ((n : Int) != (n : Int)) = false := by simp
  go_enter Tryd.func33, Tryd.ntmps33
  go_wp2_with fail
  go_loopw [5] (fun i wr => ∃ m : Nat, m ≤ n ∧ i = .int .i64 m ∧ Kept No w wr) (fun i _ => n - (intOf i).toNat)
  case atStart => exact ⟨0, by omega, rfl, Kept.refl _ _⟩
  case round =>
    obtain ⟨m, hm', rfl, hK⟩ := hrel
    by_cases hlt : m < n
    · obtain ⟨g, o, rfl, hg, hcell⟩ := HR.out (by omega)
      obtain ⟨g2, o2, rfl, hg2, hcell2⟩ := HR2.out (by omega)
      obtain ⟨a0, a1, a2, a3, a4⟩ := cells5 hcell hg hK hlt
      obtain ⟨b0, b1, b2, b3, b4⟩ := cells5 hcell2 hg2 hK hlt
      generalize xs[m * 5]?.getD 0 = z0 at *
      generalize xs[m * 5 + 1]?.getD 0 = z1 at *
      generalize xs[m * 5 + 2]?.getD 0 = z2 at *
      generalize xs[m * 5 + 3]?.getD 0 = z3 at *
      generalize xs[m * 5 + 4]?.getD 0 = z4 at *
      have c0 : ∀ nq, (wr.drewN nq).cell? ⟨g, o + m * 5, none⟩ = some (.int .i64 z0) := fun _ => a0
      have c1 : ∀ nq, (wr.drewN nq).cell? ⟨g, o + m * 5 + 1, none⟩ = some (.int .i64 z1) := fun _ => a1
      have c2 : ∀ nq, (wr.drewN nq).cell? ⟨g, o + m * 5 + 2, none⟩ = some (.int .i64 z2) := fun _ => a2
      have c3 : ∀ nq, (wr.drewN nq).cell? ⟨g, o + m * 5 + 3, none⟩ = some (.int .i64 z3) := fun _ => a3
      have c4 : ∀ nq, (wr.drewN nq).cell? ⟨g, o + m * 5 + 4, none⟩ = some (.int .i64 z4) := fun _ => a4
      have d0 : ∀ nq, (wr.drewN nq).cell? ⟨g2, o2 + m * 5, none⟩ = some (.int .i64 z0) := fun _ => b0
      have d1 : ∀ nq, (wr.drewN nq).cell? ⟨g2, o2 + m * 5 + 1, none⟩ = some (.int .i64 z1) := fun _ => b1
      have d2 : ∀ nq, (wr.drewN nq).cell? ⟨g2, o2 + m * 5 + 2, none⟩ = some (.int .i64 z2) := fun _ => b2
      have d3 : ∀ nq, (wr.drewN nq).cell? ⟨g2, o2 + m * 5 + 3, none⟩ = some (.int .i64 z3) := fun _ => b3
      have d4 : ∀ nq, (wr.drewN nq).cell? ⟨g2, o2 + m * 5 + 4, none⟩ = some (.int .i64 z4) := fun _ => b4
      clear hcell hcell2 a0 a1 a2 a3 a4 b0 b1 b2 b3 b4
      go_wp2_with fail
      refine wp_region_quiet_lit (by kernel_rfl) (by kernel_rfl) ?_
      repeat (go_big_quiet_step (fail))
      refine wpQuiet_nil ?_
      rintro _ ⟨nq, rfl⟩
      have hK2 := hK.drewN nq
      clear c0 c1 c2 c3 c4 d0 d1 d2 d3 d4
      go_wp2_with fail
      go_roundw
      case rel => exact ⟨m + 1, by omega, by go_num, hK2⟩
      case measure => simp [intOf]; omega
    · obtain rfl : m = n := by omega
      go_wp2_with fail
      go_ret
      exact ⟨rfl, hK⟩

set_option maxRecDepth 100000 in
set_option maxHeartbeats 4000000 in
theorem plainprog_is (w : World) (r c s : Int) (v u : Value) (rows rows' : List RowI) (h : PR w v rows) (h' : PR w u rows') (hn : rows.length = rows'.length)
    (he : ∀ t, t < rows.length → lenAt rows t = lenAt rows' t ∧ (rowAt rows t).zs = (rowAt rows' t).zs) :
    Calls Tryd.prog 14 #[.agg #[.int .i64 r, .int .i64 c, .int .i64 s, v], .agg #[.int .i64 r, .int .i64 c, .int .i64 s, u]] w fun e w' => e = .returned (.bool true) ∧ Kept No w w' := by
  obtain ⟨n, hnn⟩ : ∃ n, rows.length = n := ⟨_, rfl⟩
  obtain ⟨-, ao, cap, hv, hc, hm, -, -⟩ := h.rd
  obtain ⟨-, ao2, cap2, hu, hc2, hm2, -, -⟩ := h'.rd
  rw [hnn] at hv hc hn he
  rw [← hn] at hu hc2
  subst hv
  subst hu
  unfold maxLen at hm hm2
  have hx := (Box.new w #[.int .i64 r, .int .i64 c, .int .i64 s, .slice ao n cap] 32).alloc (.cells #[.int .i64 r, .int .i64 c, .int .i64 s, .slice ao2 n cap2] 32)
  have hy := Box.new (w.alloc (.cells #[.int .i64 r, .int .i64 c, .int .i64 s, .slice ao n cap] 32)) #[.int .i64 r, .int .i64 c, .int .i64 s, .slice ao2 n cap2] 32
  have hk := ((Kept.refl No w).alloc (.cells #[.int .i64 r, .int .i64 c, .int .i64 s, .slice ao n cap] 32)).alloc (.cells #[.int .i64 r, .int .i64 c, .int .i64 s, .slice ao2 n cap2] 32)
  simp only [World.size_alloc] at hy
  have H := Lib.hid (h.kept hk)
  have H' := Lib.hid (h'.kept hk)
  have HE := Lib.hid he
  have HN := Lib.hid hn
  have HNN := Lib.hid hnn
  have HX := Lib.hid hx
  have HY := Lib.hid hy
  have HK := Lib.hid hk
  clear h h' he hn hnn hx hy hk
  go_enter Tryd.func14, Tryd.ntmps14
  go_upto_region 1 with fail
  generalize (w.alloc (.cells #[.int .i64 r, .int .i64 c, .int .i64 s, .slice ao n cap] 32)).alloc (.cells #[.int .i64 r, .int .i64 c, .int .i64 s, .slice ao2 n cap2] 32) = w0 at *
  have x0 : w0.cell? ⟨w.heap.size, 0, none⟩ = some (.int .i64 r) := HX.out.cell 0
  have x1 : w0.cell? ⟨w.heap.size, 1, none⟩ = some (.int .i64 c) := HX.out.cell 1
  have x2 : w0.cell? ⟨w.heap.size, 2, none⟩ = some (.int .i64 s) := HX.out.cell 2
  have x3 : w0.cell? ⟨w.heap.size, 3, none⟩ = some (.slice ao n cap) := HX.out.cell 3
  have y0 : w0.cell? ⟨w.heap.size + 1, 0, none⟩ = some (.int .i64 r) := HY.out.cell 0
  have y1 : w0.cell? ⟨w.heap.size + 1, 1, none⟩ = some (.int .i64 c) := HY.out.cell 1
  have y2 : w0.cell? ⟨w.heap.size + 1, 2, none⟩ = some (.int .i64 s) := HY.out.cell 2
  have y3 : w0.cell? ⟨w.heap.size + 1, 3, none⟩ = some (.slice ao2 n cap2) := HY.out.cell 3
  have q0 : (r != r) = false := by simp
  have q1 : (c != c) = false := by simp
  have q2 : (s != s) = false := by simp
  have q3 : ((n : Int) != (n : Int)) = false := by simp
  go_wp2_with fail
  go_loopw [5] (fun i wr => ∃ m : Nat, m ≤ n ∧ i = .int .i64 m ∧ Kept No w0 wr) (fun i _ => n - (intOf i).toNat)
  case atStart => exact ⟨0, by omega, rfl, Kept.refl _ _⟩
  case round =>
    clear x0 x1 x2 x3 y0 y1 y2 y3 q0 q1 q2 q3
    obtain ⟨t, ht, rfl, hK⟩ := hrel
    have xr := HX.out.kept hK id
    have yr := HY.out.kept hK id
    have x3 : wr.cell? ⟨w.heap.size, 3, none⟩ = some (.slice ao n cap) := xr.cell 3
    have y3 : wr.cell? ⟨w.heap.size + 1, 3, none⟩ = some (.slice ao2 n cap2) := yr.cell 3
    by_cases hlt : t < n
    · obtain ⟨g, o, rfl, hg, hd⟩ := (H.out.kept hK).head (t := t) (by rw [HNN.out]; exact hlt)
      obtain ⟨g2, o2, rfl, hg2, hd2⟩ := (H'.out.kept hK).head (t := t) (by rw [← HN.out]; exact hlt)
      have hr1 := (H.out.kept hK).row t (by rw [HNN.out]; exact hlt)
      have hr2 := (H'.out.kept hK).row t (by rw [← HN.out]; exact hlt)
      obtain ⟨e1, e2⟩ := HE.out t hlt
      unfold lenAt at e1
      rw [← e1, ← e2] at hr2
      obtain ⟨v1, hv1⟩ : ∃ x, (rowAt rows t).v = x := ⟨_, rfl⟩
      obtain ⟨v2, hv2⟩ : ∃ x, (rowAt rows' t).v = x := ⟨_, rfl⟩
      rw [hv1] at hd hr1
      rw [hv2] at hd2 hr2
      have hcall : ∀ p : KW wr, Calls Tryd.prog 33 #[v1, v2] p.w fun e w' => e = .returned (.bool true) ∧ Kept No p.w w' := fun p => plaincode_is p.w v1 v2 _ _ (hr1.kept p.h (fun _ _ => id)) (hr2.kept p.h (fun _ _ => id))
      have HC := Lib.hid hcall
      have k1 : ∀ p : KW wr, p.w.cell? ⟨w.heap.size, 3, none⟩ = some (.slice (some ⟨g, o, none⟩) n cap) := KW.old x3 xr.lt
      have k2 : ∀ p : KW wr, p.w.cell? ⟨w.heap.size + 1, 3, none⟩ = some (.slice (some ⟨g2, o2, none⟩) n cap2) := KW.old y3 yr.lt
      have k3 : ∀ p : KW wr, p.w.cell? ⟨g, o + t, none⟩ = some v1 := KW.old hd hg
      have k4 : ∀ p : KW wr, p.w.cell? ⟨g2, o2 + t, none⟩ = some v2 := KW.old hd2 hg2
      clear hr1 hr2 e1 e2 hv1 hv2 hcall hd hd2 xr yr
      go_wp2_with fail
      refine wp_region_calm (by kernel_rfl) (by kernel_rfl) ?_
      repeat (go_big_quiet_step ((go_at_call 33; with_reducible exact calls_of _ (HC.out _))))
      refine wpQuiet_nil ?_
      rintro _ ⟨p, rfl⟩
      have hK2 := hK.trans p.h (fun _ _ f => f)
      generalize p.w = wz at *
      clear k1 k2 k3 k4 HC
      go_wp2_with fail
      go_roundw
      case rel => exact ⟨t + 1, by omega, by go_num, hK2⟩
      case measure => simp [intOf]; omega
    · obtain rfl : t = n := by omega
      go_wp2_with fail
      go_ret
      exact ⟨rfl, HK.out.trans hK (fun _ _ f => f)⟩
end Go.Proofs.YtjpddfnkamahfaaDoor.Line

set_option linter.unusedVariables false
set_option linter.unusedSimpArgs false
namespace Go.Proofs.YtjpddfnkamahfaaDoor.Line
open Go.RowKit Go.Sort Go.Proofs.YtjpddfnkamahfaaDoor.Own Go.Proofs.YtjpddfnkamahfaaDoor.Conv Go.Proofs.YtjpddfnkamahfaaDoor.Calm Go.Proofs.YtjpddfnkamahfaaDoor.Open

theorem progE_same {r c s : Int} {rows rows' : List RowI} (hn : rows'.length = rows.length) (h1 : ∀ t, lenAt rows' t = lenAt rows t) (h2 : ∀ t k, numAt rows' t k = numAt rows t k) : progE r c s rows' = progE r c s rows := by
  have e1 : lenAt rows' = lenAt rows := funext h1
  have e2 : chkAt r s rows' = chkAt r s rows := by
    funext t i
    unfold chkAt
    rw [h1, h2, h2, h2, h2, h2]
  unfold progE
  rw [hn, e1, e2]
theorem rowN_all {w : World} {u : Value} {rs : List RowI} (hp : PR w u rs) {t : Nat} (ht : t < rs.length) : rowN rs t (lenAt rs t) = (rowAt rs t).zs := by
  have hl := (hp.row t ht).len
  rw [vals_len] at hl
  refine List.ext_getElem? fun k => ?_
  rw [rowN, List.getElem?_map]
  rcases Nat.lt_or_ge k (lenAt rs t * 5) with hk | hk
  · rw [List.getElem?_range hk]
    have : k < (rowAt rs t).zs.length := by rw [hl]; exact hk
    rw [Option.map_some, numAt, List.getElem?_eq_getElem this]
    rfl
  · rw [List.getElem?_eq_none (by simpa using hk), List.getElem?_eq_none (by rw [hl]; exact hk)]
    rfl
theorem rowsOf_at {w : World} {u : Value} {rs : List RowI} (hp : PR w u rs) {hds : List Value} (hl : hds.length = rs.length) {t : Nat} (ht : t < rs.length) :
    lenAt (rowsOf hds (rowsN rs rs.length)) t = lenAt rs t ∧ (rowAt (rowsOf hds (rowsN rs rs.length)) t).zs = (rowAt rs t).zs := by
  have e : (rowsOf hds (rowsN rs rs.length))[t]? = some ⟨hds[t]'(by omega), (rowN rs t (lenAt rs t)).length / 5, rowN rs t (lenAt rs t)⟩ := by
    rw [rowsOf, List.getElem?_zipWith, List.getElem?_eq_getElem (by omega), rowsN, List.getElem?_map, List.getElem?_range ht]
    rfl
  unfold lenAt rowAt
  rw [e]
  simp only [Option.getD_some]
  refine ⟨?_, rowN_all hp ht⟩
  rw [rowN_len]
  show lenAt rs t * 5 / 5 = _
  rw [Nat.mul_div_cancel _ (by omega)]
  rfl
theorem rowsOf_same {w : World} {u : Value} {r c s : Int} {rs : List RowI} (hp : PR w u rs) {hds : List Value} (hl : hds.length = rs.length) : progE r c s (rowsOf hds (rowsN rs rs.length)) = progE r c s rs := by
  have hlen : (rowsOf hds (rowsN rs rs.length)).length = rs.length := by rw [rowsOf_len (by rw [rowsN_len]; exact hl), rowsN_len]
  refine progE_same hlen (fun t => ?_) (fun t k => ?_)
  · rcases Nat.lt_or_ge t rs.length with ht | ht
    · exact (rowsOf_at hp hl ht).1
    · unfold lenAt rowAt
      rw [List.getElem?_eq_none (by rw [hlen]; exact ht), List.getElem?_eq_none ht]
  · unfold numAt
    rcases Nat.lt_or_ge t rs.length with ht | ht
    · rw [(rowsOf_at hp hl ht).2]
    · have e1 : (rowsOf hds (rowsN rs rs.length))[t]? = none := List.getElem?_eq_none (by rw [hlen]; exact ht)
      have e2 : rs[t]? = none := List.getElem?_eq_none ht
      unfold rowAt
      rw [e1, e2]
theorem rowsN_int {rs : List RowI} (h : ∀ t k, int64 (numAt rs t k)) (n : Nat) : ∀ xs ∈ rowsN rs n, ∀ z ∈ xs, int64 z := by
  intro xs hx z hz
  rw [rowsN, List.mem_map] at hx
  obtain ⟨t, _, rfl⟩ := hx
  rw [rowN, List.mem_map] at hz
  obtain ⟨k, _, rfl⟩ := hz
  exact h t k
theorem parse_back (l : List UInt8) (hl : l.length ≤ 100000) (r c s : Int) (hr : int64 r) (hs : int64 s) (u : Value) (rs : List RowI) (w : World) (hT : Door.Tabs w) (hp : PR w u rs) (hE : progE r c s rs = 0) (hrun : runS ps0 (linesL l) = (⟨r, c, s, true, rowsN rs rs.length⟩, 0)) :
    Calls Tryd.prog 13 #[.string ⟨l.toArray⟩] w fun e w' => Kept No w w' ∧ ∃ a cp rows', e = .returned (.tuple #[.agg #[.int .i64 r, .int .i64 c, .int .i64 s, .slice a rs.length cp], .int .i64 (linesL l).length, .int .i64 0]) ∧
      PR w' (.slice a rs.length cp) rows' ∧ rs.length = rows'.length ∧ ∀ t, t < rs.length → lenAt rs t = lenAt rows' t ∧ (rowAt rs t).zs = (rowAt rows' t).zs := by
  refine (asmparse_is l hl _ hrun rfl (rowsN_int hp.int _) hr hs (fun hds h => ?_) w hT).mono ?_
  · rw [rowsN_len] at h
    show progE r c s (rowsOf hds (rowsN rs rs.length)) = 0
    rw [rowsOf_same hp h]
    exact hE
  · rintro e w' ⟨hk, v, hds, hlen, rfl, hp'⟩
    have hlen' : hds.length = rs.length := by rw [hlen, rowsN_len]
    have hlr : (rowsOf hds (rowsN rs rs.length)).length = rs.length := by rw [rowsOf_len (by rw [rowsN_len]; exact hlen'), rowsN_len]
    obtain ⟨-, ao, cap, hv, -, -, -, -⟩ := hp'.rd
    rw [hlr] at hv
    subst hv
    refine ⟨hk, ao, cap, _, rfl, hp', hlr.symm, fun t ht => ?_⟩
    obtain ⟨h1, h2⟩ := rowsOf_at hp hlen' ht
    exact ⟨h1.symm, h2.symm⟩
end Go.Proofs.YtjpddfnkamahfaaDoor.Line
