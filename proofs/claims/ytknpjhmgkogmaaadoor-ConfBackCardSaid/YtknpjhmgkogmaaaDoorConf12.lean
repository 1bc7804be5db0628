/-
  Package conf: a config and an ask, out of octets: the walk.
-/
import Derived.Test.YtknpjhmgkogmaaaDoorConf11
set_option linter.unusedVariables false
namespace Go.Proofs.YtknpjhmgkogmaaaDoor.Line
open Go.RowKit Go.Sort Go.Proofs.YtknpjhmgkogmaaaDoor.Own Go.Proofs.YtknpjhmgkogmaaaDoor.Conv Go.Proofs.YtknpjhmgkogmaaaDoor.Calm Go.Proofs.YtknpjhmgkogmaaaDoor.Oct

theorem four (w : World) (a b c d : Array Value) (ta tb tc td : TypeId) {W : World} (hW : (((w.alloc (.cells a ta)).alloc (.cells b tb)).alloc (.cells c tc)).alloc (.cells d td) = W) :
    Box W w.heap.size a ta ∧ Box W (w.heap.size + 1) b tb ∧ Box W (w.heap.size + 1 + 1) c tc ∧ Box W (w.heap.size + 1 + 1 + 1) d td ∧ Kept No w W ∧ W.heap.size = w.heap.size + 1 + 1 + 1 + 1 := by
  subst hW
  have h1 := (((Box.new w a ta).alloc (.cells b tb)).alloc (.cells c tc)).alloc (.cells d td)
  have h2 := ((Box.new (w.alloc (.cells a ta)) b tb).alloc (.cells c tc)).alloc (.cells d td)
  have h3 := (Box.new ((w.alloc (.cells a ta)).alloc (.cells b tb)) c tc).alloc (.cells d td)
  have h4 := Box.new (((w.alloc (.cells a ta)).alloc (.cells b tb)).alloc (.cells c tc)) d td
  simp only [World.size_alloc] at h2 h3 h4
  exact ⟨h1, h2, h3, h4, ((((Kept.refl _ _).alloc _).alloc _).alloc _).alloc _, by simp only [World.size_alloc]⟩

theorem cfg_of {b : List Int} (h : ∀ j, j < 7 → fLo j ≤ gV b j ∧ gV b j ≤ fHi j) : (isCfg (gV b 0) (gV b 1) (gV b 2) (gV b 3) (gV b 4) && isAsk (gV b 5) (gV b 6)) = true := by
  have h0 := h 0 (by omega)
  have h1 := h 1 (by omega)
  have h2 := h 2 (by omega)
  have h3 := h 3 (by omega)
  have h4 := h 4 (by omega)
  have h5 := h 5 (by omega)
  have h6 := h 6 (by omega)
  have c0 : fLo 0 = 0 ∧ fHi 0 = 3 ∧ fLo 1 = 0 ∧ fHi 1 = 1 ∧ fLo 2 = 1 ∧ fHi 2 = 8 ∧ fLo 3 = 0 ∧ fHi 3 = 16 ∧ fLo 4 = 1 ∧ fHi 4 = 4 ∧ fLo 5 = 1 ∧ fHi 5 = 3 ∧ fLo 6 = 0 ∧ fHi 6 = 1048576 := by decide
  unfold isCfg isAsk
  rw [Bool.and_eq_true, decide_eq_true_eq, decide_eq_true_eq]
  omega
theorem kept_row (w : World) (g : Nat) (cs : Array Value) : Kept (Only g) w (w.setRow g cs) :=
  ⟨rfl, rfl, rfl, by rw [setRow_size]; exact Nat.le_refl _, fun k _ hn => setRow_other w g k cs hn⟩
theorem beN_get (bs : List Int) (h : Octs bs) (k : Nat) (hk : k < bs.length) : ((beN ((bs.drop k).take 1) : Nat) : Int) = bs.getD k 0 := by
  have e : (bs.drop k).take 1 = [bs[k]] := by
    rw [List.drop_eq_getElem_cons hk]
    rfl
  rw [e, List.getD_eq_getElem?_getD, List.getElem?_eq_getElem hk]
  have := h bs[k] (List.getElem_mem _)
  simp [beN]
  omega

set_option maxRecDepth 100000 in
set_option maxHeartbeats 8000000 in
theorem get_is (w : World) (u : Value) (n : Nat) (b : List Int) (hoc : Octs b) (h : Rd w 1 u n (bv b)) (hlim : n ≤ 1000000) :
    Calls Tryd.prog 19 #[u] w (GetPost w b) := by
  have hl := h.1
  rw [bv_len, Nat.mul_one] at hl
  obtain ⟨a0, c0, rfl⟩ : ∃ a c, u = .slice a n c := by obtain ⟨_, a, c, h, _⟩ := h; exact ⟨a, c, h⟩
  obtain ⟨w0, hw0⟩ : ∃ W, (((w.alloc (.cells cfg0 23)).alloc (.cells ask0 25)).alloc (.cells cfg0 23)).alloc (.cells ask0 25) = W := ⟨_, rfl⟩
  obtain ⟨hx0, hy0, hc0, ha0, hk0, hz0⟩ := four _ _ _ _ _ _ _ _ _ hw0
  have HR := Lib.hid (h.kept hk0 (fun _ _ f => f))
  have hin : ∀ (f g : Nat → Int) (x y z : Int) (q : Bool), decide (x ≤ y ∧ y ≤ z) = q → True := fun _ _ _ _ _ _ _ => trivial
  unfold cfg0 ask0 at hw0
  have HW0 := Lib.hid hw0
  have HL := Lib.hid hl
  have HOC := Lib.hid hoc
  clear hw0 hl hoc h hin
  go_enter Tryd.func19, Tryd.ntmps19
  go_upto_region 3 with fail
  rw [HW0.out]
  clear HW0
  go_wp2_with fail
  refine (new_is w0 _ n b HR.out hlim).mono ?_
  rintro e w1 ⟨r, v, rfl, hr1, k1⟩
  have hx1 := hx0.kept k1 id
  have hy1 := hy0.kept k1 id
  have hc1 := hc0.kept k1 id
  have ha1 := ha0.kept k1 id
  have hk1 := hk0.trans k1 (fun _ _ f => f)
  clear hx0 hy0 hc0 ha0 hk0 k1 HR
  go_wp2_with fail
  refine (fields_is (w.heap.size + 1 + 1) (w.heap.size + 1 + 1 + 1) w1).mono ?_
  rintro e w2 ⟨bf, rfl, hf2, hbf, k2⟩
  have hx2 := hx1.kept k2 id
  have hy2 := hy1.kept k2 id
  have hc2 := hc1.kept k2 id
  have ha2 := ha1.kept k2 id
  have hr2 := hr1.kept k2 id (fun _ _ => id)
  have hk2 := hk1.trans k2 (fun _ _ f => f)
  have hal := ha1.lt
  have hrl := hr1.1.lt
  have hrB := hr1.2.2.2.2
  rw [hz0] at hr2 hrB
  have hsl := hr1.2.1.lt
  have hvB : ∀ g, v.ownBlock = some g → w.heap.size + 1 + 1 + 1 + 1 ≤ g ∧ g ≠ bf := fun g hg => by
    have := hsl g hg
    rw [hz0] at this
    omega
  have HVB := Lib.hid hvB
  have hrf : r ≠ bf := by omega
  have hbl : w.heap.size + 1 + 1 + 1 < bf := by omega
  clear hx1 hy1 hc1 ha1 hk1 k2 hr1 hz0 hsl hvB hrl hal hbf
  go_wp2_with fail
  obtain ⟨B, hB⟩ : ∃ B, w.heap.size + 1 + 1 + 1 + 1 = B := ⟨_, rfl⟩
  obtain ⟨ca, hca⟩ : ∃ a, w.heap.size + 1 + 1 + 1 = a := ⟨_, rfl⟩
  obtain ⟨cc, hcc⟩ : ∃ c, w.heap.size + 1 + 1 = c := ⟨_, rfl⟩
  have q1 : w.heap.size + 1 < cc := by omega
  have q2 : cc < ca := by omega
  have q3 : ca < B := by omega
  have q4 : ca < bf := by omega
  rw [hB] at hr2 hrB HVB
  rw [hca, hcc] at hf2
  rw [hca] at ha2
  rw [hcc] at hc2
  rw [hca, hcc]
  clear hB hca hcc hbl
  go_loopw [21] (fun i wr => ∃ k : Nat, k ≤ 7 ∧ i = .int .i64 k ∧ Box wr w.heap.size cfg0 23 ∧ Box wr (w.heap.size + 1) ask0 25 ∧ Box wr cc (cfgK b k) 23 ∧ Box wr ca (askK b k) 25 ∧ Box wr bf (fCells cc ca) 61 ∧ Rdr wr B r false (gOff k) v b ∧ Kept No w wr ∧ Hid (getF b k (7 - k) = getW b ∧ ∀ j, j < k → fLo j ≤ gV b j ∧ gV b j ≤ fHi j)) (fun i _ => 7 - (intOf i).toNat)
  case atStart => exact ⟨0, by omega, rfl, hx2, hy2, hc2, ha2, hf2, hr2, hk2, Lib.hid ⟨rfl, fun j hj => by omega⟩⟩
  case round =>
    obtain ⟨k, hk7, rfl, hx, hy, hc, ha, hf, hr, hK, HG⟩ := hrel
    clear hx2 hy2 hc2 ha2 hf2 hr2 hk2
    by_cases hlt : k < 7
    · obtain ⟨p0, p1, p2, p3⟩ := fCells_at cc ca k hlt
      have e0 : wr.cell? ⟨bf, k * 4, none⟩ = some (.pointer (some ⟨fB cc ca k, fO k, none⟩)) := (hf.cell _).trans p0
      have e1 : wr.cell? ⟨bf, k * 4 + 1, none⟩ = some (.int .i64 (fW k : Nat)) := (hf.cell _).trans p1
      have e2 : wr.cell? ⟨bf, k * 4 + 2, none⟩ = some (.int .i64 (fLo k)) := (hf.cell _).trans p2
      have e3 : wr.cell? ⟨bf, k * 4 + 3, none⟩ = some (.int .i64 (fHi k)) := (hf.cell _).trans p3
      have i1 : (k : Int) < 7 := by omega
      have hst := getF_step b k (7 - k) (by omega)
      rw [HG.out.1] at hst
      have HST := Lib.hid hst
      have hfw := fW_le k
      have hgl := gOff_le k
      clear p0 p1 p2 p3 hst
      go_upto_region 7 with fail
      have hf8 := Box.new wr #[.pointer (some ⟨fB cc ca k, fO k, none⟩), .int .i64 (fW k : Nat), .int .i64 (fLo k), .int .i64 (fHi k)] 61
      have ka : Kept No wr (wr.alloc (.cells #[.pointer (some ⟨fB cc ca k, fO k, none⟩), .int .i64 (fW k : Nat), .int .i64 (fLo k), .int .i64 (fHi k)] 61)) := (Kept.refl _ _).alloc _
      have hx8 := hx.kept ka id
      have hy8 := hy.kept ka id
      have hc8 := hc.kept ka id
      have ha8 := ha.kept ka id
      have hg8 := hf.kept ka id
      have hr8 := hr.kept ka id (fun _ _ => id)
      have hK8 := hK.trans ka (fun _ _ f => f)
      have hrw := hr.1.lt
      clear e0 e1 e2 e3 hx hy hc ha hf hr hK ka
      generalize wr.alloc _ = w8 at *
      obtain ⟨b8, hb8⟩ : ∃ b8, wr.heap.size = b8 := ⟨_, rfl⟩
      rw [hb8] at hf8 hrw ⊢
      clear hb8
      go_wp2_with fail
      refine (at_is w8 B r false (gOff k) v b hr8).mono ?_
      rintro e w9 ⟨rfl, rfl⟩
      have c1 : w9.cell? ⟨b8, 1, none⟩ = some (.int .i64 (fW k : Nat)) := hf8.cell 1
      go_wp2_with fail
      refine (num_is w9 B r false (gOff k) (fW k) v b HOC.out hr8 (by omega) (by omega)).mono ?_
      rintro e w10 ⟨k10, hor⟩
      have hx10 := hx8.kept k10 (fun h => by simp only [Only] at h; omega)
      have hy10 := hy8.kept k10 (fun h => by simp only [Only] at h; omega)
      have hc10 := hc8.kept k10 (fun h => by simp only [Only] at h; omega)
      have ha10 := ha8.kept k10 (fun h => by simp only [Only] at h; omega)
      have hg10 := hg8.kept k10 (fun h => by simp only [Only] at h; omega)
      have hf10 := hf8.kept k10 (fun h => by simp only [Only] at h; omega)
      have hK10 := hK8.trans k10 (fun k hk h => by simp only [Only] at h; omega)
      clear c1 hx8 hy8 hc8 ha8 hg8 hf8 hr8 hK8 k10
      rcases hor with ⟨hbad, rfl, hr10⟩ | ⟨⟨_, hle⟩, rfl, hr10⟩
      · have hW : getW b = (b.length, 1) := by
          rw [HST.out, if_pos (by simpa using hbad)]
        have HWB := Lib.hid hW
        clear hW hbad
        obtain ⟨p1, p2, p3, p4⟩ := rows_two hx10 hy10 hK10 (Nat.le_refl _) cfg0 ask0
        go_wp2_with (first
          | refine wpList_store_rowTo rfl 23 _ _ rfl rfl w.heap.size cfg0 (by kernel_rfl) (by kernel_rfl) 23 _ hx10 (by kernel_rfl) (by kernel_rfl) (by kernel_rfl) ?_
          | refine wpList_store_rowTo rfl 25 _ _ rfl rfl (w.heap.size + 1) ask0 (by kernel_rfl) (by kernel_rfl) 25 _ p1 (by kernel_rfl) (by kernel_rfl) (by kernel_rfl) ?_)
        refine bodyPost_ret (results_22 rfl _ _ w.heap.size (w.heap.size + 1) 23 25 cfg0 ask0 _ _ rfl rfl p2 p3 Tryd.underlying23 rfl (by kernel_rfl) Tryd.underlying25 rfl (by kernel_rfl)) rfl ?_
        exact ⟨p4, .inl ⟨by rw [HWB.out]; show (1 : Int) ≠ 0; decide, by rw [HWB.out, HL.out]; rfl⟩⟩
      · have hzb := gV_bd b HOC.out k
        have hwv : wrap64 ((beN ((b.drop (gOff k)).take (fW k)) : Nat) : Int) = gV b k := by
          unfold gV at hzb ⊢
          unfold wrap64
          omega
        rw [hwv]
        clear hwv
        have c2 : w10.cell? ⟨b8, 2, none⟩ = some (.int .i64 (fLo k)) := hf10.cell 2
        have c3 : w10.cell? ⟨b8, 3, none⟩ = some (.int .i64 (fHi k)) := hf10.cell 3
        have hfld := field_set (by omega) hc10 ha10 hlt
        obtain ⟨⟨vo, f0⟩, f1⟩ := field_cell hc10 ha10 hlt
        have HFLD := Lib.hid hfld
        obtain ⟨z, hz⟩ : ∃ z, gV b k = z := ⟨_, rfl⟩
        rw [hz] at HFLD hzb ⊢
        have HZ := Lib.hid hz
        have hbb : fB cc ca k = cc ∨ fB cc ca k = ca := by unfold fB; split <;> simp
        clear hfld hz
        by_cases hrg : fLo k ≤ z ∧ z ≤ fHi k
        · have HIN := Lib.hid (in_to z (fLo k) (fHi k) true (decide_eq_true hrg))
          have HRG := Lib.hid hrg
          clear hrg
          go_wp2_with fail
          refine (HIN.out w10).mono ?_
          rintro e w11 ⟨rfl, rfl⟩
          have c0 : w11.cell? ⟨b8, 0, none⟩ = some (.pointer (some ⟨fB cc ca k, fO k, none⟩)) := hf10.cell 0
          clear c2 c3
          go_wp2_with fail
          go_roundw
          case rel =>
            have hbx : ∀ {g : Nat} {cs : Array Value} {t : TypeId}, Box w11 g cs t → g ≠ cc → g ≠ ca → Box (w11.setCell ⟨fB cc ca k, fO k, none⟩ (.int .i64 z)) g cs t := fun h h1 h2 => Box.set_other h (by
              rcases hbb with e | e <;> rw [e]
              · exact fun e => h1 e.symm
              · exact fun e => h2 e.symm) _ _
            have kS : Kept (fun g => g = cc ∨ g = ca) w11 (w11.setCell ⟨fB cc ca k, fO k, none⟩ (.int .i64 z)) := (Kept.refl _ _).setCell (p := ⟨fB cc ca k, fO k, none⟩) (fun _ => hbb) _
            refine ⟨k + 1, by omega, by go_num, hbx hx10 (by omega) (by omega), hbx hy10 (by omega) (by omega), HFLD.out.1, HFLD.out.2, hbx hg10 (by omega) (by omega), ?_, ?_, Lib.hid ⟨?_, ?_⟩⟩
            · rw [gOff_succ k hlt]
              exact hr10.kept kS (by omega) (fun g hg h => by have := HVB.out g hg; omega)
            · exact hK10.trans kS (fun g hg h => by omega)
            · rw [HST.out, if_neg (by omega), HZ.out, if_neg (by have := HRG.out; omega), Nat.sub_sub]
            · intro j hj
              by_cases hjk : j = k
              · subst hjk
                rw [HZ.out]
                exact HRG.out
              · exact HG.out.2 j (by omega)
          case measure => simp [intOf]; omega
        · have HIN := Lib.hid (in_to z (fLo k) (fHi k) false (decide_eq_false hrg))
          have hW : getW b = (gOff k, 3) := by
            rw [HST.out, if_neg (by omega), HZ.out, if_pos (by omega)]
          have HWB := Lib.hid hW
          clear hrg hW
          go_wp2_with fail
          refine (HIN.out w10).mono ?_
          rintro e w11 ⟨rfl, rfl⟩
          clear c2 c3 f0 f1
          obtain ⟨p1, p2, p3, p4⟩ := rows_two hx10 hy10 hK10 (Nat.le_refl _) cfg0 ask0
          go_wp2_with (first
            | refine wpList_store_rowTo rfl 23 _ _ rfl rfl w.heap.size cfg0 (by kernel_rfl) (by kernel_rfl) 23 _ hx10 (by kernel_rfl) (by kernel_rfl) (by kernel_rfl) ?_
            | refine wpList_store_rowTo rfl 25 _ _ rfl rfl (w.heap.size + 1) ask0 (by kernel_rfl) (by kernel_rfl) 25 _ p1 (by kernel_rfl) (by kernel_rfl) (by kernel_rfl) ?_)
          refine bodyPost_ret (results_22 rfl _ _ w.heap.size (w.heap.size + 1) 23 25 cfg0 ask0 _ _ rfl rfl p2 p3 Tryd.underlying23 rfl (by kernel_rfl) Tryd.underlying25 rfl (by kernel_rfl)) rfl ?_
          exact ⟨p4, .inl ⟨by rw [HWB.out]; show (3 : Int) ≠ 0; decide, by rw [HWB.out]; rfl⟩⟩
    · obtain rfl : k = 7 := by omega
      have hG := HG.out.1
      have hF : getF b 7 (7 - 7) = if b.length < 10 ∨ 1 < b.getD 9 0 then (9, 1) else if 10 < b.length then (10, 1) else (10, 0) := rfl
      rw [hG] at hF
      have HGF := Lib.hid hF
      have hc' : Box wr cc #[.int .i64 (gV b 0), .int .i64 (gV b 1), .int .i64 (gV b 2), .int .i64 (gV b 3), .int .i64 (gV b 4)] 23 := hc
      have ha' : Box wr ca #[.int .i64 (gV b 5), .int .i64 (gV b 6), .bool false] 25 := ha
      have hr' : Rdr wr B r false 9 v b := hr
      clear hc ha hr hG hF hf
      go_wp2_with fail
      refine (at_is wr B r false 9 v b hr').mono ?_
      rintro e w9 ⟨rfl, rfl⟩
      go_wp2_with fail
      refine (num_is w9 B r false 9 1 v b HOC.out hr' (by omega) (by omega)).mono ?_
      rintro e w10 ⟨k10, hor⟩
      have hx10 := hx.kept k10 (fun h => by simp only [Only] at h; omega)
      have hy10 := hy.kept k10 (fun h => by simp only [Only] at h; omega)
      have hc10 := hc'.kept k10 (fun h => by simp only [Only] at h; omega)
      have ha10 := ha'.kept k10 (fun h => by simp only [Only] at h; omega)
      have hK10 := hK.trans k10 (fun k hk h => by simp only [Only] at h; omega)
      clear hx hy hc' ha' hr' hK k10
      rcases hor with ⟨hbad, rfl, hr10⟩ | ⟨⟨_, hle⟩, rfl, hr10⟩
      · have hW : getW b = (9, 1) := by
          rw [HGF.out, if_pos (.inl (by simp at hbad; omega))]
        have HWB := Lib.hid hW
        clear hW hbad
        obtain ⟨p1, p2, p3, p4⟩ := rows_two hx10 hy10 hK10 (Nat.le_refl _) cfg0 ask0
        go_wp2_with (first
          | refine wpList_store_rowTo rfl 23 _ _ rfl rfl w.heap.size cfg0 (by kernel_rfl) (by kernel_rfl) 23 _ hx10 (by kernel_rfl) (by kernel_rfl) (by kernel_rfl) ?_
          | refine wpList_store_rowTo rfl 25 _ _ rfl rfl (w.heap.size + 1) ask0 (by kernel_rfl) (by kernel_rfl) 25 _ p1 (by kernel_rfl) (by kernel_rfl) (by kernel_rfl) ?_)
        refine bodyPost_ret (results_22 rfl _ _ w.heap.size (w.heap.size + 1) 23 25 cfg0 ask0 _ _ rfl rfl p2 p3 Tryd.underlying23 rfl (by kernel_rfl) Tryd.underlying25 rfl (by kernel_rfl)) rfl ?_
        exact ⟨p4, .inl ⟨by rw [HWB.out]; show (1 : Int) ≠ 0; decide, by rw [HWB.out]; rfl⟩⟩
      · have hat : wrap64 ((beN ((b.drop 9).take 1) : Nat) : Int) = b.getD 9 0 := by
          rw [beN_get b HOC.out 9 (by omega)]
          have := HOC.out (b.getD 9 0) (by rw [List.getD_eq_getElem?_getD, List.getElem?_eq_getElem (by omega)]; exact List.getElem_mem _)
          unfold wrap64
          omega
        rw [hat]
        obtain ⟨z, hz⟩ : ∃ z, b.getD 9 0 = z := ⟨_, rfl⟩
        have hz0 : 0 ≤ z := by
          rw [← hz, ← beN_get b HOC.out 9 (by omega)]
          omega
        rw [hz]
        have HZ := Lib.hid hz
        clear hat hz
        by_cases hbig : 1 < z
        · have hW : getW b = (9, 1) := by
            rw [HGF.out, if_pos (.inr (by rw [HZ.out]; exact hbig))]
          have HWB := Lib.hid hW
          clear hW
          obtain ⟨p1, p2, p3, p4⟩ := rows_two hx10 hy10 hK10 (Nat.le_refl _) cfg0 ask0
          go_wp2_with (first
            | refine wpList_store_rowTo rfl 23 _ _ rfl rfl w.heap.size cfg0 (by kernel_rfl) (by kernel_rfl) 23 _ hx10 (by kernel_rfl) (by kernel_rfl) (by kernel_rfl) ?_
            | refine wpList_store_rowTo rfl 25 _ _ rfl rfl (w.heap.size + 1) ask0 (by kernel_rfl) (by kernel_rfl) 25 _ p1 (by kernel_rfl) (by kernel_rfl) (by kernel_rfl) ?_)
          refine bodyPost_ret (results_22 rfl _ _ w.heap.size (w.heap.size + 1) 23 25 cfg0 ask0 _ _ rfl rfl p2 p3 Tryd.underlying23 rfl (by kernel_rfl) Tryd.underlying25 rfl (by kernel_rfl)) rfl ?_
          exact ⟨p4, .inl ⟨by rw [HWB.out]; show (1 : Int) ≠ 0; decide, by rw [HWB.out]; rfl⟩⟩
        · go_wp2_with fail
          refine (left_is w10 B r false 10 v b hr10).mono ?_
          rintro e w11 ⟨rfl, k11⟩
          have hx11 := hx10.kept k11 id
          have hy11 := hy10.kept k11 id
          have hc11 := hc10.kept k11 id
          have ha11 := ha10.kept k11 id
          have hr11 := hr10.kept k11 id (fun _ _ => id)
          have hK11 := hK10.trans k11 (fun _ _ f => f)
          clear hx10 hy10 hc10 ha10 hr10 hK10 k11
          by_cases hmore : 10 < b.length
          · have hW : getW b = (10, 1) := by
              rw [HGF.out, if_neg (by rw [HZ.out]; omega), if_pos hmore]
            have HWB := Lib.hid hW
            have hmi : (0 : Int) < ((b.length - 10 : Nat) : Int) := by omega
            clear hW
            go_wp2_with fail
            refine (at_is w11 B r false 10 v b hr11).mono ?_
            rintro e w12 ⟨rfl, rfl⟩
            obtain ⟨p1, p2, p3, p4⟩ := rows_two hx11 hy11 hK11 (Nat.le_refl _) cfg0 ask0
            go_wp2_with (first
              | refine wpList_store_rowTo rfl 23 _ _ rfl rfl w.heap.size cfg0 (by kernel_rfl) (by kernel_rfl) 23 _ hx11 (by kernel_rfl) (by kernel_rfl) (by kernel_rfl) ?_
              | refine wpList_store_rowTo rfl 25 _ _ rfl rfl (w.heap.size + 1) ask0 (by kernel_rfl) (by kernel_rfl) 25 _ p1 (by kernel_rfl) (by kernel_rfl) (by kernel_rfl) ?_)
            refine bodyPost_ret (results_22 rfl _ _ w.heap.size (w.heap.size + 1) 23 25 cfg0 ask0 _ _ rfl rfl p2 p3 Tryd.underlying23 rfl (by kernel_rfl) Tryd.underlying25 rfl (by kernel_rfl)) rfl ?_
            exact ⟨p4, .inl ⟨by rw [HWB.out]; show (1 : Int) ≠ 0; decide, by rw [HWB.out]; rfl⟩⟩
          · have hb10 : b.length = 10 := by omega
            have hmi : ((b.length - 10 : Nat) : Int) = 0 := by omega
            have hW : getW b = (10, 0) := by
              rw [HGF.out, if_neg (by rw [HZ.out]; omega), if_neg hmore]
            have HWB := Lib.hid hW
            have HB10 := Lib.hid hb10
            rw [hmi]
            have c2 : w11.cell? ⟨ca, 2, none⟩ = some (.bool false) := ha11.cell 2
            have f2 := ha11.frozen 2
            clear hW hmi hb10 hmore hle
            go_upto_region 22 with fail
            have hok : (isCfg (gV b 0) (gV b 1) (gV b 2) (gV b 3) (gV b 4) && isAsk (gV b 5) (gV b 6)) = true := cfg_of HG.out.2
            have HOK := Lib.hid hok
            have ha12 : Box (w11.setCell ⟨ca, 2, none⟩ (.bool (z == 1))) ca #[.int .i64 (gV b 5), .int .i64 (gV b 6), .bool (z == 1)] 25 := box_set ha11 2 (.bool (z == 1))
            have hx12 := Box.set_other hx11 (b := ca) (by omega) 2 (.bool (z == 1))
            have hy12 := Box.set_other hy11 (b := ca) (by omega) 2 (.bool (z == 1))
            have hc12 := Box.set_other hc11 (b := ca) (by omega) 2 (.bool (z == 1))
            have kS : Kept (Only ca) w11 (w11.setCell ⟨ca, 2, none⟩ (.bool (z == 1))) := (Kept.refl _ _).setCell (p := ⟨ca, 2, none⟩) (fun _ => by exact rfl) _
            have hr12 := hr11.kept kS (fun h => by simp only [Only] at h; omega) (fun g hg h => by have := HVB.out g hg; simp only [Only] at h; omega)
            have hK12 := hK11.trans kS (fun g hg h => by simp only [Only] at h; omega)
            generalize w11.setCell ⟨ca, 2, none⟩ (.bool (z == 1)) = w12 at *
            clear ha11 hx11 hy11 hc11 hr11 hK11 kS c2 f2 hok
            have hAo : ∀ q, Box (two w12 (w12.setRow w.heap.size #[.int .i64 (gV b 0), .int .i64 (gV b 1), .int .i64 (gV b 2), .int .i64 (gV b 3), .int .i64 (gV b 4)]) q) ca #[.int .i64 (gV b 5), .int .i64 (gV b 6), .bool (z == 1)] 25 := fun q => by
              cases q
              · exact ha12
              · exact Box.row_other ha12 (by omega)
            have hCo : ∀ q, Box (two w12 (w12.setRow w.heap.size #[.int .i64 (gV b 0), .int .i64 (gV b 1), .int .i64 (gV b 2), .int .i64 (gV b 3), .int .i64 (gV b 4)]) q) cc #[.int .i64 (gV b 0), .int .i64 (gV b 1), .int .i64 (gV b 2), .int .i64 (gV b 3), .int .i64 (gV b 4)] 23 := fun q => by
              cases q
              · exact hc12
              · exact Box.row_other hc12 (by omega)
            have hRo : ∀ q, Rdr (two w12 (w12.setRow w.heap.size #[.int .i64 (gV b 0), .int .i64 (gV b 1), .int .i64 (gV b 2), .int .i64 (gV b 3), .int .i64 (gV b 4)]) q) B r false (9 + 1) v b := fun q => by
              cases q
              · exact hr12
              · exact hr12.kept (kept_row w12 w.heap.size #[.int .i64 (gV b 0), .int .i64 (gV b 1), .int .i64 (gV b 2), .int .i64 (gV b 3), .int .i64 (gV b 4)]) (fun h => by simp only [Only] at h; omega) (fun g hg h => by have := HVB.out g hg; simp only [Only] at h; omega)
            have hy13 := Box.row_other (cs := #[.int .i64 (gV b 0), .int .i64 (gV b 1), .int .i64 (gV b 2), .int .i64 (gV b 3), .int .i64 (gV b 4)]) hy12 (g := w.heap.size) (by omega)
            refine wp_region_alloc_tail 5 4 _ rfl rfl (by omega) (Drawn w12 (w12.setRow w.heap.size #[.int .i64 (gV b 0), .int .i64 (gV b 1), .int .i64 (gV b 2), .int .i64 (gV b 3), .int .i64 (gV b 4)])) ⟨1, rfl⟩ (by kernel_rfl) (by kernel_rfl) ?_
            simp only [List.take_succ_cons, List.take_zero, List.drop_succ_cons, List.drop_zero]
            refine lexA_load rfl rfl 23 _ rfl cc rfl _ _ _ hCo Tryd.underlying23 rfl (by kernel_rfl) ?_
            refine lexA_load rfl rfl 25 _ rfl ca rfl _ _ _ hAo Tryd.underlying25 rfl (by kernel_rfl) ?_
            refine lexA_plain rfl rfl (.pointer (some ⟨r, 0, none⟩)) (fun q m => by go_simp) ?_
            refine lexA_call rfl rfl 41 #[.pointer (some ⟨r, 0, none⟩)] (fun w => by go_simp) (.int .i64 10) (fun q m => (at_is _ B r false (9 + 1) v b ((hRo q).kept ((Kept.refl No _).drewN m) id (fun _ _ => id))).mono (fun e w' h => ⟨h.1, m, h.2⟩)) ?_
            refine lexA_store rfl rfl 23 _ _ rfl rfl w.heap.size _ rfl rfl 23 _ hx12 (by kernel_rfl) (by kernel_rfl) (by kernel_rfl) ?_
            refine lexR_nil ?_
            rintro _ ⟨nq, rfl⟩
            simp only [Act.put, List.setIfInBounds_toArray, List.set]
            have q1 : Box ((two w12 (w12.setRow w.heap.size #[.int .i64 (gV b 0), .int .i64 (gV b 1), .int .i64 (gV b 2), .int .i64 (gV b 3), .int .i64 (gV b 4)]) true).drewN nq) (w.heap.size + 1) ask0 25 := hy13
            have q2 : Box ((two w12 (w12.setRow w.heap.size #[.int .i64 (gV b 0), .int .i64 (gV b 1), .int .i64 (gV b 2), .int .i64 (gV b 3), .int .i64 (gV b 4)]) true).drewN nq) w.heap.size #[.int .i64 (gV b 0), .int .i64 (gV b 1), .int .i64 (gV b 2), .int .i64 (gV b 3), .int .i64 (gV b 4)] 23 := Box.row hx12
            have qk : Kept No w ((two w12 (w12.setRow w.heap.size #[.int .i64 (gV b 0), .int .i64 (gV b 1), .int .i64 (gV b 2), .int .i64 (gV b 3), .int .i64 (gV b 4)]) true).drewN nq) := (row_kept hK12 (Nat.le_refl _) _).drewN nq
            generalize (two w12 (w12.setRow w.heap.size #[.int .i64 (gV b 0), .int .i64 (gV b 1), .int .i64 (gV b 2), .int .i64 (gV b 3), .int .i64 (gV b 4)]) true).drewN nq = w13 at *
            clear hAo hCo hRo hx12 hy12 hy13 ha12 hc12 hr12 hK12
            go_wp2_with (refine wpList_store_rowTo rfl 25 _ _ rfl rfl (w.heap.size + 1) #[.int .i64 (gV b 5), .int .i64 (gV b 6), .bool (z == 1)] (by kernel_rfl) (by kernel_rfl) 25 _ q1 (by kernel_rfl) (by kernel_rfl) (by kernel_rfl) ?_)
            refine bodyPost_ret (results_22 rfl _ _ w.heap.size (w.heap.size + 1) 23 25 #[.int .i64 (gV b 0), .int .i64 (gV b 1), .int .i64 (gV b 2), .int .i64 (gV b 3), .int .i64 (gV b 4)] #[.int .i64 (gV b 5), .int .i64 (gV b 6), .bool (z == 1)] _ _ rfl rfl (Box.row_other q2 (by omega)) (Box.row q1) Tryd.underlying23 rfl (by kernel_rfl) Tryd.underlying25 rfl (by kernel_rfl)) rfl ?_
            exact ⟨row_kept qk (by omega) _, .inr ⟨⟨HWB.out, HB10.out, HOK.out, by rw [HZ.out]; omega⟩, by rw [HZ.out]; rfl⟩⟩
end Go.Proofs.YtknpjhmgkogmaaaDoor.Line
