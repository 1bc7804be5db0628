/-
  warrenerref13.Instr.
-/
import Derived.Test.YtjpddfnkamahfaaDoorWith13
import Derived.Test.YtjpddfnkamahfaaDoorRefNum
set_option linter.unusedVariables false
set_option linter.unusedSimpArgs false
namespace Go.Proofs.YtjpddfnkamahfaaDoor.Line
open Go.RowKit Go.Sort Go.Proofs.YtjpddfnkamahfaaDoor.Own Go.Proofs.YtjpddfnkamahfaaDoor.Conv Go.Proofs.YtjpddfnkamahfaaDoor.Calm

def wideZ (z : Int) (ws : List (List UInt8)) : Nat → Bool
  | 0 => false
  | k + 1 => wideZ z ws k || (decide (k < 3) && !octB (valZ z ws k))
theorem wide_all (z : Int) (ws : List (List UInt8)) : wideZ z ws 4 = !(octB (valZ z ws 0) && octB (valZ z ws 1) && octB (valZ z ws 2)) := by
  simp [wideZ]
theorem wide_dash {z : Int} {ws : List (List UInt8)} {k : Nat} (hd : (shapeZ z)[k]? = some 45) : wideZ z ws (k + 1) = wideZ z ws k := by
  rw [wideZ, valZ, if_pos hd]
  simp [octB]
def insK (z : Int) (ws : List (List UInt8)) (k : Nat) : Array Value := insC z (arrV z ws k 0) (arrV z ws k 1) (arrV z ws k 2) (arrV z ws k 3)
theorem ins_dash {z : Int} {ws : List (List UInt8)} {k : Nat} (h : k < 4) (hd : (shapeZ z)[k]? = some 45) : insK z ws k = insK z ws (k + 1) := by
  have hv : valZ z ws k = 0 := by rw [valZ, if_pos hd]
  rcases four h with rfl | rfl | rfl | rfl <;> simp [insK, insC, arrV, hv]
theorem ins_step (z : Int) (ws : List (List UInt8)) {k : Nat} (h : k < 4) : insW z (arrV z ws k 0) (arrV z ws k 1) (arrV z ws k 2) (arrV z ws k 3) k (valZ z ws k) = insK z ws (k + 1) := by
  rcases four h with rfl | rfl | rfl | rfl <;> simp [insW, insK, insC, arrV]
theorem instr_one {l : List UInt8} (h : opL l ≠ 0) (h1 : (wordsL l).tail.length ≠ posZ (opL l) 4 ∨ okZ (opL l) (wordsL l).tail 4 = false) : instrL l = badI 1 := by
  rcases h1 with h1 | h1
  · exact instr_many h h1
  · exact instr_word h h1

set_option maxRecDepth 100000 in
set_option maxHeartbeats 8000000 in
theorem refins_is (l : List UInt8) (hl : l.length ≤ 100000) (w : World) :
    Calls Tryd.prog 9 #[.string ⟨l.toArray⟩] w fun e w' => e = .returned (insV (instrL l)) ∧ Kept No w w' := by
  have hx := Box.new w #[.int .i64 0, .int .i64 0, .int .i64 0, .int .i64 0, .int .i64 0] 25
  have hk : Kept No w (w.alloc (.cells #[.int .i64 0, .int .i64 0, .int .i64 0, .int .i64 0, .int .i64 0] 25)) := (Kept.refl _ _).alloc _
  have HX := Lib.hid hx
  have HK := Lib.hid hk
  obtain ⟨sl, hsl⟩ : ∃ x : ByteArray, (⟨l.toArray⟩ : ByteArray) = x := ⟨_, rfl⟩
  have hw := fun w => refwords_is l hl w
  rw [hsl] at hw ⊢
  have HW := Lib.hid hw
  clear hx hk hw hsl
  go_enter Tryd.func9, Tryd.ntmps9
  go_upto_region 1 with fail
  generalize w.alloc (.cells #[.int .i64 0, .int .i64 0, .int .i64 0, .int .i64 0, .int .i64 0] 25) = w0 at *
  go_wp2_with fail
  refine (HW.out w0).mono ?_
  rintro e w1 ⟨k1, v1, rfl, s1⟩
  obtain ⟨_, ao, cap, rfl, hc, hm, _, hR⟩ := s1.rd
  have hx1 := HX.out.kept k1 id
  have hk1 := HK.out.trans k1 (fun _ _ f => f)
  unfold maxLen at hm
  clear s1 k1 HX HK HW
  cases hws : wordsL l with
  | nil =>
    have HE : Hid (instrL l = badI 2) := Lib.hid (instr_none (by simp [opL, hws]))
    rw [hws] at hc
    have hn0 : ([] : List (List UInt8)).length = 0 := rfl
    rw [hn0] at *
    clear hR hws
    go_wp2_with (refine wpList_store_rowTo rfl 25 _ _ rfl rfl w.heap.size #[.int .i64 0, .int .i64 0, .int .i64 0, .int .i64 0, .int .i64 0] (by kernel_rfl) (by kernel_rfl) 25 _ hx1 (by kernel_rfl) (by kernel_rfl) (by kernel_rfl) ?_)
    refine bodyPost_ret (results_row_tmp rfl _ _ w.heap.size 25 #[.int .i64 0, .int .i64 0, .int .i64 0, .int .i64 0, .int .i64 0] (0, 0) _ rfl hx1.row Tryd.underlying25 rfl (by kernel_rfl)) rfl ?_
    exact ⟨by rw [HE.out]; rfl, row_kept hk1 (Nat.le_refl _) _⟩
  | cons wd ws =>
    rw [hws] at hc hR
    obtain ⟨g, o, rfl, hg, hcell⟩ := hR (by simp)
    have hln : (wd :: ws).length = ws.length + 1 := rfl
    have hcw : ws.length + 1 ≤ cap := hc
    rw [hln] at *
    clear hln
    have htl : (wordsL l).tail = ws := by rw [hws]; rfl
    obtain ⟨z, hz⟩ : ∃ z, opL l = z := ⟨_, rfl⟩
    have hop : opZ wd = z := by rw [← hz]; simp [opL, hws]
    have c0 : w1.cell? ⟨g, o, none⟩ = some (.string ⟨wd.toArray⟩) := hcell 0 _ rfl
    obtain ⟨sd, hsd⟩ : ∃ x : ByteArray, (⟨wd.toArray⟩ : ByteArray) = x := ⟨_, rfl⟩
    have ho := fun w => refop_is wd w
    rw [hsd, hop] at ho
    rw [hsd] at c0
    have HO := Lib.hid ho
    have HC := Lib.hid (fun j (x : List UInt8) (h : ws[j]? = some x) => hcell (j + 1) (.string ⟨x.toArray⟩) (by simp [sv, h]))
    clear ho hsd hop hcell hR hws
    go_wp2_with fail
    refine (HO.out w1).mono ?_
    rintro e w2 ⟨rfl, k2⟩
    have hx2 := hx1.kept k2 id
    have hk2 := hk1.trans k2 (fun _ _ f => f)
    have c2 : w2.cell? ⟨g, o, none⟩ = some (.string sd) := (k2.cell (p := ⟨g, o, none⟩) hg id).trans c0
    have HC2 := Lib.hid (fun j x h => (k2.cell (p := ⟨g, o + (j + 1), none⟩) hg id).trans (HC.out j x h))
    have hg2 : g < w2.heap.size := Nat.lt_of_lt_of_le hg k2.size
    clear hx1 hk1 c0 k2 HC hg
    rcases opL_in l with hz0 | hin
    · rw [hz] at hz0
      subst hz0
      have HE : Hid (instrL l = badI 2) := Lib.hid (instr_none hz)
      clear hz c2 HO
      go_wp2_with (first | (go_at_call 22; fail) | refine wpList_store_rowTo rfl 25 _ _ rfl rfl w.heap.size #[.int .i64 0, .int .i64 0, .int .i64 0, .int .i64 0, .int .i64 0] (by kernel_rfl) (by kernel_rfl) 25 _ hx2 (by kernel_rfl) (by kernel_rfl) (by kernel_rfl) ?_)
      refine bodyPost_ret (results_row_tmp rfl _ _ w.heap.size 25 #[.int .i64 0, .int .i64 0, .int .i64 0, .int .i64 0, .int .i64 0] (0, 0) _ rfl hx2.row Tryd.underlying25 rfl (by kernel_rfl)) rfl ?_
      exact ⟨by rw [HE.out]; rfl, row_kept hk2 (Nat.le_refl _) _⟩
    · rw [hz] at hin
      have hzn : z ≠ 0 := by omega
      have hzb : (z == 0) = false := by simp [hzn]
      have hs4 := shape_four hin
      obtain ⟨ss, hss⟩ : ∃ s : ByteArray, (⟨(shapeZ z).toArray⟩ : ByteArray) = s := ⟨_, rfl⟩
      have hsz : ss.size = 4 := by rw [← hss]; simp [ByteArray.size, hs4]
      have hget : ∀ k (h : k < ss.size), (shapeZ z)[k]? = some (ss[k]'h) := by
        subst hss
        intro k h
        rw [List.getElem?_eq_getElem (by simpa [ByteArray.size] using h)]
        rfl
      have hsh := fun w => refshape_is z w
      rw [hss] at hsh
      have HSH := Lib.hid hsh
      have Hget := Lib.hid hget
      have HZ := Lib.hid hz
      have hs1 : ss.size ≤ 4 := by omega
      have hs2 : 4 ≤ ss.size := by omega
      have HTL := Lib.hid htl
      clear hget hss hs4 hsz hz hin htl hsh
      go_wp2_with fail
      refine (HO.out w2).mono ?_
      rintro e w3 ⟨rfl, k3⟩
      have hx3 := (hx2.kept k3 id).alloc (.cells #[.int .i64 z, .int .i64 0, .int .i64 0, .int .i64 0, .int .i64 0] 25)
      have hy3 := Box.new w3 #[.int .i64 z, .int .i64 0, .int .i64 0, .int .i64 0, .int .i64 0] 25
      have hk3 := k3.alloc (.cells #[.int .i64 z, .int .i64 0, .int .i64 0, .int .i64 0, .int .i64 0] 25)
      have hk3w := hk2.trans hk3 (fun _ _ f => f)
      have hy5 : w2.heap.size ≤ w3.heap.size := k3.size
      have hlt2 := hx2.lt
      clear c2 hx2 k3 HO
      go_upto_region 5 with fail
      generalize w3.alloc (.cells #[.int .i64 z, .int .i64 0, .int .i64 0, .int .i64 0, .int .i64 0] 25) = w4 at *
      generalize w3.heap.size = y5 at *
      have d0 : w4.cell? ⟨y5, 0, none⟩ = some (.int .i64 z) := hy3.cell 0
      go_wp2_with fail
      refine (HSH.out w4).mono ?_
      rintro e w5 ⟨rfl, k5⟩
      have hx5 := Lib.hid (hx3.kept k5 id)
      have hy5b : Hid (Box w5 y5 (insK z ws 0) 25) := Lib.hid (hy3.kept k5 id)
      have hk5 := Lib.hid (hk3.trans k5 (fun _ _ f => f))
      have hne5 : w.heap.size < y5 := by omega
      have HK2 := Lib.hid hk2
      clear d0 hx3 hy3 hk3 hk3w k5 HSH hk2
      go_wp2_with fail
      go_loopw [7, 8, 9] (fun at_ wd_ i wr => ∃ k : Nat, k ≤ 4 ∧ at_ = .int .i64 (1 + posZ z k : Nat) ∧ wd_ = .bool (wideZ z ws k) ∧ i = .int .i64 k ∧ Hid (okZ z ws k = true) ∧ Hid (Box wr y5 (insK z ws k) 25) ∧ Hid (Box wr w.heap.size #[.int .i64 0, .int .i64 0, .int .i64 0, .int .i64 0, .int .i64 0] 25) ∧ Hid (Kept No w2 wr)) (fun _ _ i _ => 4 - (intOf i).toNat)
      case atStart => exact ⟨0, by omega, rfl, rfl, rfl, Lib.hid rfl, hy5b, hx5, hk5⟩
      case round =>
        clear hx5 hy5b hk5
        obtain ⟨k, hk, rfl, rfl, rfl, hok, hyr, hxr, hkr⟩ := hrel
        have HKW := Lib.hid (HK2.out.trans hkr.out (fun _ _ f => f))
        by_cases hlt : k < 4
        · have hltk : k < ss.size := by omega
          have hzk : (k : Int) < (ss.size : Int) := by omega
          have hg5 := Hget.out k hltk
          by_cases h45 : ss[k]'hltk = 45
          · rw [h45] at hg5
            have hcc : (((ss[k]'hltk).toNat : Int) == 45) = true := by rw [h45]; rfl
            have hpz := posZ_dash hg5
            have hwd := wide_dash (ws := ws) hg5
            have hnew : Hid (okZ z ws (k + 1) = true) := Lib.hid (okZ_next hok.out (.inl hg5))
            rw [ins_dash hlt hg5] at hyr
            rw [← hpz, ← hwd]
            clear hpz hwd hg5 h45
            go_wp2_with fail
            go_roundw
            case rel => exact ⟨k + 1, by omega, rfl, rfl, by go_num, hnew, hyr, hxr, hkr⟩
            case measure => simp [intOf]; omega
          · have hg5' : (shapeZ z)[k]? ≠ some 45 := by rw [hg5]; intro e; exact h45 (Option.some.inj e)
            have hcc : (((ss[k]'hltk).toNat : Int) == 45) = false := by
              rw [beq_eq_false_iff_ne]; intro e; exact h45 (UInt8.toNat_inj.1 (Int.ofNat.inj e))
            have hpz := posZ_num hg5'
            have hp4 : posZ z (k + 1) ≤ posZ z 4 := posZ_mono' (by omega)
            have hpk := posZ_le z k
            by_cases hlw : ws.length ≤ posZ z k
            · have HE : Hid (instrL l = badI 1) := Lib.hid (instr_one (by rw [HZ.out]; exact hzn) (.inl (by rw [HTL.out, HZ.out]; omega)))
              clear hg5 hg5' h45 hpz hp4
              generalize posZ z k = p at *
              go_wp2_with (refine wpList_store_rowTo rfl 25 _ _ rfl rfl w.heap.size #[.int .i64 0, .int .i64 0, .int .i64 0, .int .i64 0, .int .i64 0] (by kernel_rfl) (by kernel_rfl) 25 _ hxr.out (by kernel_rfl) (by kernel_rfl) (by kernel_rfl) ?_)
              refine bodyPost_ret (results_row_tmp rfl _ _ w.heap.size 25 #[.int .i64 0, .int .i64 0, .int .i64 0, .int .i64 0, .int .i64 0] (0, 0) _ rfl hxr.out.row Tryd.underlying25 rfl (by kernel_rfl)) rfl ?_
              exact ⟨by rw [HE.out]; rfl, row_kept HKW.out (Nat.le_refl _) _⟩
            · obtain ⟨x, hx⟩ : ∃ x, ws[posZ z k]? = some x := ⟨_, List.getElem?_eq_getElem (by omega)⟩
              have hc0 := HC2.out _ x hx
              obtain ⟨sx, hsx⟩ : ∃ s : ByteArray, (⟨x.toArray⟩ : ByteArray) = s := ⟨_, rfl⟩
              have c1 : wr.cell? ⟨g, o + (1 + posZ z k), none⟩ = some (.string sx) := by
                rw [← hsx, show o + (1 + posZ z k) = o + (posZ z k + 1) by omega]
                exact (hkr.out.cell (p := ⟨g, o + (posZ z k + 1), none⟩) hg2 id).trans hc0
              have hxl : x.length ≤ 1000000 := by
                have := words_le (l := l) (p := x) (by have := List.mem_of_getElem? hx; rw [← HTL.out] at this; exact List.mem_of_mem_tail this)
                omega
              have hnu := refnum_is x hxl wr
              rw [hsx] at hnu
              have hwn : wordN ws (posZ z k) = numberL x := by rw [wordN, hx]; rfl
              cases hnm : numberL x with
              | none =>
                rw [hnm] at hnu hwn
                have HE : Hid (instrL l = badI 1) := Lib.hid (instr_one (by rw [HZ.out]; exact hzn) (.inr (by rw [HTL.out, HZ.out]; exact okZ_fail hlt hg5' hwn)))
                have HNU := Lib.hid hnu
                clear hwn hnu hsx hc0 hx hpz hp4 hg5 hg5' h45
                generalize posZ z k = p at *
                go_wp2_with fail
                refine HNU.out.mono ?_
                rintro e w7 ⟨rfl, k7⟩
                have hx7 := hxr.out.kept k7 id
                have hk7 := HKW.out.trans k7 (fun _ _ f => f)
                clear c1 k7
                go_wp2_with (refine wpList_store_rowTo rfl 25 _ _ rfl rfl w.heap.size #[.int .i64 0, .int .i64 0, .int .i64 0, .int .i64 0, .int .i64 0] (by kernel_rfl) (by kernel_rfl) 25 _ hx7 (by kernel_rfl) (by kernel_rfl) (by kernel_rfl) ?_)
                refine bodyPost_ret (results_row_tmp rfl _ _ w.heap.size 25 #[.int .i64 0, .int .i64 0, .int .i64 0, .int .i64 0, .int .i64 0] (0, 0) _ rfl hx7.row Tryd.underlying25 rfl (by kernel_rfl)) rfl ?_
                exact ⟨by rw [HE.out]; rfl, row_kept hk7 (Nat.le_refl _) _⟩
              | some v =>
                rw [hnm] at hnu hwn
                have hvz : valZ z ws k = v := by rw [valZ, if_neg hg5', hwn]; rfl
                have hnew : Hid (okZ z ws (k + 1) = true) := Lib.hid (okZ_next hok.out (.inr (by rw [hwn]; rfl)))
                have hst := ins_step z ws hlt
                have hwst : wideZ z ws (k + 1) = (wideZ z ws k || (decide (k < 3) && !octB v)) := by rw [wideZ, hvz]
                rw [hvz] at hst
                have HST := Lib.hid hst
                have HWS := Lib.hid hwst
                have HPZ1 := Lib.hid hpz
                have HNU := Lib.hid hnu
                clear hwn hnu hsx hc0 hx hpz hp4 hg5 hg5' h45 hst hvz hwst
                generalize posZ z k = p at *
                generalize wideZ z ws k = wb at *
                go_wp2_with fail
                refine HNU.out.mono ?_
                rintro e w7 ⟨rfl, k7⟩
                have hx7 := Lib.hid (hxr.out.kept k7 id)
                have hy7 := Lib.hid (hyr.out.kept k7 id)
                have hk7 := Lib.hid (hkr.out.trans k7 (fun _ _ f => f))
                clear c1 k7 HNU hxr hyr hkr
                have hlty : y5 < w7.heap.size := hy7.out.lt
                have b0 : w7.cell? ⟨y5, 0, none⟩ = some (.int .i64 z) := hy7.out.cell 0
                have b1 : w7.cell? ⟨y5, 1, none⟩ = some (.int .i64 (arrV z ws k 0)) := hy7.out.cell 1
                have b2 : w7.cell? ⟨y5, 2, none⟩ = some (.int .i64 (arrV z ws k 1)) := hy7.out.cell 2
                have b3 : w7.cell? ⟨y5, 3, none⟩ = some (.int .i64 (arrV z ws k 2)) := hy7.out.cell 3
                have b4 : w7.cell? ⟨y5, 4, none⟩ = some (.int .i64 (arrV z ws k 3)) := hy7.out.cell 4
                generalize arrV z ws k 0 = a0 at *
                generalize arrV z ws k 1 = a1 at *
                generalize arrV z ws k 2 = a2 at *
                generalize arrV z ws k 3 = a3 at *
                have HWI := Lib.hid (with_is z a0 a1 a2 a3 v k hlt w7)
                have hcase : ∃ b : Bool, wideZ z ws (k + 1) = b ∧ ((wb = true ∧ b = true) ∨ (wb = false ∧ decide ((k : Int) < 3) = false ∧ b = false) ∨ (wb = false ∧ decide ((k : Int) < 3) = true ∧ decide (v < 0) = true ∧ b = true) ∨ (wb = false ∧ decide ((k : Int) < 3) = true ∧ decide (v < 0) = false ∧ decide (255 < v) = true ∧ b = true) ∨ (wb = false ∧ decide ((k : Int) < 3) = true ∧ decide (v < 0) = false ∧ decide (255 < v) = false ∧ b = false)) := by
                  refine ⟨_, rfl, ?_⟩
                  rw [HWS.out]
                  cases wb with
                  | true => exact .inl ⟨rfl, rfl⟩
                  | false =>
                    right
                    by_cases h3 : k < 3
                    · rw [decide_eq_true h3, decide_eq_true (show (k : Int) < 3 by omega)]
                      right
                      by_cases h0 : v < 0
                      · exact .inl ⟨rfl, rfl, decide_eq_true h0, by simp [octB, show ¬ (0 ≤ v) by omega]⟩
                      · right
                        by_cases h1 : 255 < v
                        · exact .inl ⟨rfl, rfl, decide_eq_false h0, decide_eq_true h1, by simp [octB, show ¬ (v ≤ 255) by omega]⟩
                        · exact .inr ⟨rfl, rfl, decide_eq_false h0, decide_eq_false h1, by simp [octB, show 0 ≤ v by omega, show v ≤ 255 by omega]⟩
                    · rw [decide_eq_false h3, decide_eq_false (show ¬ (k : Int) < 3 by omega)]
                      exact .inl ⟨rfl, rfl, by simp⟩
                obtain ⟨bb, hbb, hcase⟩ := hcase
                have HBB := Lib.hid hbb
                clear hbb HWS
                rcases hcase with ⟨rfl, rfl⟩ | ⟨rfl, e3, rfl⟩ | ⟨rfl, e3, e0, rfl⟩ | ⟨rfl, e3, e0, e1, rfl⟩ | ⟨rfl, e3, e0, e1, rfl⟩
                all_goals
                  go_upto_region 18 with fail
                  all_goals
                    go_wp2_with fail
                    refine HWI.out.mono ?_
                    rintro e w8 ⟨rfl, k8⟩
                    have hy8 := hy7.out.kept k8 id
                    have hx8 := hx7.out.kept k8 id
                    have hk8 := hk7.out.trans k8 (fun _ _ f => f)
                    have hyn : Hid (Box (w8.setRow y5 (insW z a0 a1 a2 a3 k v)) y5 (insK z ws (k + 1)) 25) := Lib.hid (by rw [← HST.out]; exact hy8.row)
                    have hxn : Hid (Box (w8.setRow y5 (insW z a0 a1 a2 a3 k v)) w.heap.size #[.int .i64 0, .int .i64 0, .int .i64 0, .int .i64 0, .int .i64 0] 25) := Lib.hid (hx8.row_other (by omega))
                    have hkn : Hid (Kept No w2 (w8.setRow y5 (insW z a0 a1 a2 a3 k v))) := Lib.hid (row_kept hk8 (by omega) _)
                    clear b0 b1 b2 b3 b4 k8 hx8 hk8
                    go_wp2_with (refine wpList_store_rowTo rfl 25 _ _ rfl rfl y5 (insW z a0 a1 a2 a3 k v) (by kernel_rfl) (by kernel_rfl) 25 _ hy8 (by kernel_rfl) (by kernel_rfl) (by kernel_rfl) ?_)
                    go_roundw
                    case rel =>
                      first
                      | exact ⟨k + 1, by omega, congrArg (Value.int .i64) (by rw [HPZ1.out]; omega), by rw [HBB.out], by go_num, hnew, hyn, hxn, hkn⟩
                      | exact ⟨k + 1, by omega, congrArg (Value.int .i64) (by rw [HPZ1.out]; omega), congrArg Value.bool (by rw [HBB.out, e0, e1]; rfl), by go_num, hnew, hyn, hxn, hkn⟩
                      | (exfalso; have q0 := of_decide_eq_true e0; omega)
                      | (exfalso; have q0 := of_decide_eq_false e0; omega)
                    case measure => simp [intOf]; omega
        · obtain rfl : k = 4 := by omega
          by_cases hnum : ws.length = posZ z 4
          · obtain ⟨wb, hwb⟩ : ∃ b, wideZ z ws 4 = b := ⟨_, rfl⟩
            rw [hwb]
            have hwa := wide_all z ws
            rw [hwb] at hwa
            have hoc3 : (octB (valZ z ws 0) && octB (valZ z ws 1) && octB (valZ z ws 2)) = !wb := by rw [hwa, Bool.not_not]
            have hp1 : ws.length ≤ posZ z 4 := by omega
            have hp2 : posZ z 4 ≤ ws.length := by omega
            have HN := Lib.hid hnum
            clear hwb hnum
            cases wb with
            | true =>
              have HE : Hid (instrL l = badI 3) := Lib.hid (instr_wide (by rw [HZ.out]; exact hzn) (by rw [HTL.out, HZ.out]; exact HN.out) (by rw [HTL.out, HZ.out]; exact hok.out) (by rw [HTL.out, HZ.out]; exact hoc3))
              clear hwa hoc3
              generalize posZ z 4 = p at *
              go_wp2_with (refine wpList_store_rowTo rfl 25 _ _ rfl rfl w.heap.size #[.int .i64 0, .int .i64 0, .int .i64 0, .int .i64 0, .int .i64 0] (by kernel_rfl) (by kernel_rfl) 25 _ hxr.out (by kernel_rfl) (by kernel_rfl) (by kernel_rfl) ?_)
              refine bodyPost_ret (results_row_tmp rfl _ _ w.heap.size 25 #[.int .i64 0, .int .i64 0, .int .i64 0, .int .i64 0, .int .i64 0] (0, 0) _ rfl hxr.out.row Tryd.underlying25 rfl (by kernel_rfl)) rfl ?_
              exact ⟨by rw [HE.out]; rfl, row_kept HKW.out (Nat.le_refl _) _⟩
            | false =>
              have HE : Hid (instrL l = ⟨z, valZ z ws 0, valZ z ws 1, valZ z ws 2, valZ z ws 3, 0⟩) := Lib.hid (by
                have := instr_yes (l := l) (by rw [HZ.out]; exact hzn) (by rw [HTL.out, HZ.out]; exact HN.out) (by rw [HTL.out, HZ.out]; exact hok.out) (by rw [HTL.out, HZ.out]; exact hoc3)
                rw [this, HTL.out, HZ.out])
              have b0 : wr.cell? ⟨y5, 0, none⟩ = some (.int .i64 z) := hyr.out.cell 0
              have b1 : wr.cell? ⟨y5, 1, none⟩ = some (.int .i64 (valZ z ws 0)) := hyr.out.cell 1
              have b2 : wr.cell? ⟨y5, 2, none⟩ = some (.int .i64 (valZ z ws 1)) := hyr.out.cell 2
              have b3 : wr.cell? ⟨y5, 3, none⟩ = some (.int .i64 (valZ z ws 2)) := hyr.out.cell 3
              have b4 : wr.cell? ⟨y5, 4, none⟩ = some (.int .i64 (valZ z ws 3)) := hyr.out.cell 4
              clear hwa hoc3
              generalize valZ z ws 0 = a0 at *
              generalize valZ z ws 1 = a1 at *
              generalize valZ z ws 2 = a2 at *
              generalize valZ z ws 3 = a3 at *
              generalize posZ z 4 = p at *
              go_wp2_with (refine wpList_store_rowTo rfl 25 _ _ rfl rfl w.heap.size #[.int .i64 z, .int .i64 a0, .int .i64 a1, .int .i64 a2, .int .i64 a3] (by kernel_rfl) (by kernel_rfl) 25 _ hxr.out (by kernel_rfl) (by kernel_rfl) (by kernel_rfl) ?_)
              refine bodyPost_ret (results_row_tmp rfl _ _ w.heap.size 25 #[.int .i64 z, .int .i64 a0, .int .i64 a1, .int .i64 a2, .int .i64 a3] (0, 0) _ rfl hxr.out.row Tryd.underlying25 rfl (by kernel_rfl)) rfl ?_
              exact ⟨by rw [HE.out]; rfl, row_kept HKW.out (Nat.le_refl _) _⟩
          · have HE : Hid (instrL l = badI 1) := Lib.hid (instr_one (by rw [HZ.out]; exact hzn) (.inl (by rw [HTL.out, HZ.out]; exact hnum)))
            generalize posZ z 4 = p at *
            generalize wideZ z ws 4 = wb at *
            go_wp2_with (refine wpList_store_rowTo rfl 25 _ _ rfl rfl w.heap.size #[.int .i64 0, .int .i64 0, .int .i64 0, .int .i64 0, .int .i64 0] (by kernel_rfl) (by kernel_rfl) 25 _ hxr.out (by kernel_rfl) (by kernel_rfl) (by kernel_rfl) ?_)
            refine bodyPost_ret (results_row_tmp rfl _ _ w.heap.size 25 #[.int .i64 0, .int .i64 0, .int .i64 0, .int .i64 0, .int .i64 0] (0, 0) _ rfl hxr.out.row Tryd.underlying25 rfl (by kernel_rfl)) rfl ?_
            exact ⟨by rw [HE.out]; rfl, row_kept HKW.out (Nat.le_refl _) _⟩
end Go.Proofs.YtjpddfnkamahfaaDoor.Line
