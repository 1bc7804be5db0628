/-
  The statements' Few.
-/
import Derived.Test.YtaffaliplmfagaaDoorPap8
import Derived.BigQuiet
set_option linter.unusedVariables false
set_option linter.unusedSimpArgs false
namespace Go.Proofs.YtaffaliplmfagaaDoor.Line
open Go.RowKit Go.Sort Go.Proofs.YtaffaliplmfagaaDoor.Own Go.Proofs.YtaffaliplmfagaaDoor.Conv Go.Proofs.YtaffaliplmfagaaDoor.Calm

theorem rd_cut {w : World} {ao : Option Addr} {n c : Nat} {zs : List Int} (h : Rd w 1 (.slice ao n c) n (vals zs)) (m : Nat) (hm : m ≤ n) (h0 : 0 < m) : Rd w 1 (.slice ao m c) m (vals (zs.take m)) := by
  obtain ⟨hl, a, c', he, hc, hx, hnn, hR⟩ := h
  cases he
  obtain ⟨g, o, rfl, hg, hcell⟩ := hR (by omega)
  rw [vals_len, Nat.mul_one] at hl
  refine ⟨by rw [vals_len, List.length_take]; omega, _, c, rfl, by omega, hx, (fun h => by cases h), fun _ => ⟨g, o, rfl, hg, fun j u hu => hcell j u ?_⟩⟩
  simp only [vals, List.map_take, List.getElem?_take] at hu
  split at hu
  · exact hu
  · cases hu

set_option maxRecDepth 100000 in
set_option maxHeartbeats 8000000 in
theorem few_is (vd ed : Int) (ao : Option Addr) (n cap : Nat) (fs : List FoundI) (w : World) (h : FR w (.slice ao n cap) fs) :
    Calls Tryd.prog 6 #[.agg #[.int .i64 vd, .int .i64 ed, .slice ao n cap]] w fun e w' => Kept No w w' ∧ ∃ ao' cap' gs, e = .returned (.agg #[.int .i64 vd, .int .i64 ed, .slice ao' gs.length cap']) ∧ Seg w' w.heap.size 48 4 (.slice ao' gs.length cap') gs.length (foundV gs) ∧ (∀ W, (∀ f ∈ fs, Rd W 1 f.v f.n (vals f.zs)) → ∀ f ∈ gs, Rd W 1 f.v f.n (vals f.zs)) ∧ gs.length ≤ 12 ∧ ∀ f ∈ gs, f.zs.length ≤ 40 := by
  obtain ⟨i0, hi, hz0, hz1, hz2⟩ := info_parts info_found
  have hz0' : i0.zero = some (.agg #[.int .i64 0, .int .i64 0, .int .i64 0, .slice none 0 0]) := hz0
  obtain ⟨hn, hcap, hm⟩ := h.len
  unfold maxLen at hm
  have HN := Lib.hid hn
  have HF := Lib.hid h
  have hx := (Box.new w #[.int .i64 vd, .int .i64 ed, .slice ao n cap] 24).alloc (.cells #[.int .i64 0, .int .i64 0, .slice none 0 0] 24)
  have hy := Box.new (w.alloc (.cells #[.int .i64 vd, .int .i64 ed, .slice ao n cap] 24)) #[.int .i64 0, .int .i64 0, .slice none 0 0] 24
  have hk := ((Kept.refl No w).alloc (.cells #[.int .i64 vd, .int .i64 ed, .slice ao n cap] 24)).alloc (.cells #[.int .i64 0, .int .i64 0, .slice none 0 0] 24)
  simp only [World.size_alloc] at hy
  have HX := Lib.hid hx
  have HY := Lib.hid hy
  have HK := Lib.hid hk
  clear hn h hx hy hk
  go_enter Tryd.func6, Tryd.ntmps6
  go_upto_region 1 with fail
  have hlt0 : w.heap.size + 1 < ((w.alloc (.cells #[.int .i64 vd, .int .i64 ed, .slice ao n cap] 24)).alloc (.cells #[.int .i64 0, .int .i64 0, .slice none 0 0] 24)).heap.size := HY.out.lt
  generalize (w.alloc (.cells #[.int .i64 vd, .int .i64 ed, .slice ao n cap] 24)).alloc (.cells #[.int .i64 0, .int .i64 0, .slice none 0 0] 24) = w0 at *
  have x2 : w0.cell? ⟨w.heap.size, 2, none⟩ = some (.slice ao n cap) := HX.out.cell 2
  go_wp2_with fail
  go_loopw [3, 4] (fun l i wr => ∃ (t : Nat) (gs : List FoundI), t ≤ n ∧ t ≤ 12 ∧ i = .int .i64 t ∧ Hid (gs.length = t) ∧ Seg wr w0.heap.size 48 4 l t (foundV gs) ∧ Hid (∀ f ∈ gs, (∀ W, (∀ f ∈ fs, Rd W 1 f.v f.n (vals f.zs)) → Rd W 1 f.v f.n (vals f.zs)) ∧ f.zs.length ≤ 40) ∧ Kept No w0 wr) (fun _ i _ => 12 - (intOf i).toNat)
  case atStart => exact ⟨0, [], by omega, by omega, rfl, Lib.hid rfl, Seg.nil _ _ _ _, Lib.hid (fun f hf => by simp at hf), Kept.refl _ _⟩
  case round =>
    clear x2
    obtain ⟨t, gs, ht, ht12, rfl, hgl, hs, hgs, hK⟩ := hrel
    have hxr := HX.out.kept hK id
    have x2 : wr.cell? ⟨w.heap.size, 2, none⟩ = some (.slice ao n cap) := hxr.cell 2
    by_cases hlt : t < n ∧ t < 12
    · obtain ⟨hlt, hlt2⟩ := hlt
      have i2 : decide ((t : Int) < 12) = true := by rw [decide_eq_true_eq]; omega
      obtain ⟨f, hf⟩ : ∃ f, fs[t]? = some f := ⟨_, List.getElem?_eq_getElem (by have := HN.out; omega)⟩
      have hpk := HF.out.pk hf
      have hpg : ∀ W, (∀ f ∈ fs, Rd W 1 f.v f.n (vals f.zs)) → Rd W 1 f.v f.n (vals f.zs) := fun W hW => hW f (List.mem_of_getElem? hf)
      obtain ⟨g, o, rfl, hg, e0, e1, e2, e3⟩ := (HF.out.kept (HK.out.trans hK (fun _ _ f => f))).at hf
      obtain ⟨fk, fi, fj, fv, fm, fzs⟩ := f
      have hzl : fzs.length = fm := by have := hpk.len; rw [vals_len] at this; simp only at this; omega
      obtain ⟨-, A, C, hfv, hmc, hmx, -, hRc⟩ := id hpk
      simp only at hfv e0 e1 e2 e3 hpk hmc hRc hpg
      subst hfv
      unfold maxLen at hmx
      have HRC := Lib.hid hRc
      have HPK := Lib.hid hpg
      have HZL := Lib.hid hzl
      have hcp := Box.new wr #[.int .i64 fk, .int .i64 fi, .int .i64 fj, .slice A fm C] 48
      have hkc := (Kept.refl No wr).alloc (.cells #[.int .i64 fk, .int .i64 fi, .int .i64 fj, .slice A fm C] 48)
      clear hf hpk hzl hRc hpg
      go_upto_region 6 with fail
      clear e0 e1 e2 e3 x2
      generalize wr.alloc (.cells #[.int .i64 fk, .int .i64 fi, .int .i64 fj, .slice A fm C] 48) = wa at *
      have y3 : wa.cell? ⟨wr.heap.size, 3, none⟩ = some (.slice A fm C) := hcp.cell 3
      have f3 : wa.frozen? ⟨wr.heap.size, 3, none⟩ = false := hcp.frozen 3
      have hszr := hK.size
      by_cases h40 : 40 < fm
      case' pos =>
        obtain ⟨g', o', rfl, -, -⟩ := HRC.out (by omega)
        have c40 : (40 : Int) ≤ (C : Int) := by omega
        go_upto_region 8 with fail
        have hcz : Box (wa.setCell ⟨wr.heap.size, 3, none⟩ (.slice (some ⟨g', o', none⟩) 40 C)) wr.heap.size #[.int .i64 fk, .int .i64 fi, .int .i64 fj, .slice (some ⟨g', o', none⟩) 40 C] 48 := bset hcp 3 _
        have hkz : Kept No wr (wa.setCell ⟨wr.heap.size, 3, none⟩ (.slice (some ⟨g', o', none⟩) 40 C)) := hkc.trans ((Kept.refl _ wa).setCell (p := ⟨wr.heap.size, 3, none⟩) (S := Only wr.heap.size) (fun _ => rfl) _) (fun q hq e => by have : q = wr.heap.size := e; omega)
        have HNW : Hid ((∀ W, (∀ f ∈ fs, Rd W 1 f.v f.n (vals f.zs)) → Rd W 1 (.slice (some ⟨g', o', none⟩) 40 C) 40 (vals (fzs.take 40))) ∧ (fzs.take 40).length ≤ 40) := Lib.hid ⟨fun W hW => rd_cut (HPK.out W hW) 40 (by omega) (by omega), by rw [List.length_take]; omega⟩
        clear y3 f3
        generalize wa.setCell ⟨wr.heap.size, 3, none⟩ (.slice (some ⟨g', o', none⟩) 40 C) = wz at *
        obtain ⟨zz, hzz⟩ : ∃ z, fzs.take 40 = z := ⟨_, rfl⟩
        obtain ⟨A', hA'⟩ : ∃ a, (some ⟨g', o', none⟩ : Option Addr) = a := ⟨_, rfl⟩
        obtain ⟨M, hM⟩ : ∃ m, 40 = m := ⟨_, rfl⟩
        rw [hzz, hA'] at HNW
        rw [hA'] at hcz
        have hcz : Box wz wr.heap.size #[.int .i64 fk, .int .i64 fi, .int .i64 fj, .slice A' M C] 48 := by rw [← hM]; exact hcz
        have HNW : Hid ((∀ W, (∀ f ∈ fs, Rd W 1 f.v f.n (vals f.zs)) → Rd W 1 (.slice A' M C) M (vals zz)) ∧ zz.length ≤ 40) := by rw [← hM]; exact HNW
        clear hzz hA' hM
      case' neg =>
        go_upto_region 8 with fail
        have hcz := hcp
        have hkz := hkc
        have HNW : Hid ((∀ W, (∀ f ∈ fs, Rd W 1 f.v f.n (vals f.zs)) → Rd W 1 (.slice A fm C) fm (vals fzs)) ∧ fzs.length ≤ 40) := Lib.hid ⟨HPK.out, by rw [HZL.out]; omega⟩
        clear y3 f3
        obtain ⟨zz, hzz⟩ : ∃ z, fzs = z := ⟨_, rfl⟩
        obtain ⟨A', hA'⟩ : ∃ a, A = a := ⟨_, rfl⟩
        obtain ⟨M, hM⟩ : ∃ m, fm = m := ⟨_, rfl⟩
        obtain ⟨wz, hwz⟩ : ∃ q, wa = q := ⟨_, rfl⟩
        rw [hzz, hA', hM] at HNW
        rw [hA', hM, hwz] at hcz
        rw [hwz] at hkz
        rw [hwz]
        clear hzz hA' hM hwz
      all_goals
        have y0 : wz.cell? ⟨wr.heap.size, 0, none⟩ = some (.int .i64 fk) := hcz.cell 0
        have y1 : wz.cell? ⟨wr.heap.size, 1, none⟩ = some (.int .i64 fi) := hcz.cell 1
        have y2 : wz.cell? ⟨wr.heap.size, 2, none⟩ = some (.int .i64 fj) := hcz.cell 2
        have y3 : wz.cell? ⟨wr.heap.size, 3, none⟩ = some (.slice A' M C) := hcz.cell 3
        have hszz := hkz.size
        have hsz := hs.kept hkz (fun _ _ f => f.elim)
        have hKz := hK.trans hkz (fun _ _ f => f)
        have HSEG := Lib.hid (hsz.kept ((Kept.refl No wz).alloc (.cells #[.int .i64 fk, .int .i64 fi, .int .i64 fj, .slice A' M C] 48)) (fun _ _ => id))
        have hcn := cells_new wz #[.int .i64 fk, .int .i64 fi, .int .i64 fj, .slice A' M C] 48
        have HCN := Lib.hid hcn
        have H16 : Hid (w0.heap.size ≤ (wz.alloc (.cells #[.int .i64 fk, .int .i64 fi, .int .i64 fj, .slice A' M C] 48)).heap.size) := Lib.hid (by rw [World.size_alloc]; omega)
        have HKZ := Lib.hid hKz
        have HSZ := Lib.hid hsz
        clear hs hK hkz hkc hcp hcz hcn hKz hsz hszz hxr HPK HRC HZL
        go_wp2_with (at_builtin; refine wpList_append_seg rfl _ _ 22 rfl w0.heap.size 48 i0 _ 4 48 Tryd.underlying22 hi hz0' hz1 hz2 rfl (by decide) _ _ _ rfl HSEG.out ⟨_, 0, none⟩ 1 1 [.int .i64 fk, .int .i64 fi, .int .i64 fj, .slice A' M C] rfl rfl HCN.out (by intro u hu; simp only [List.mem_cons, List.not_mem_nil, or_false] at hu; rcases hu with rfl | rfl | rfl | rfl <;> rfl) (by unfold maxLen; omega) (by omega) H16.out ?_)
        intro v7 w7 hs7 hg7 hb7
        have hK7 : Kept No w0 w7 := (HKZ.out.alloc _).grown hg7 (fun g hlt hg => by have := (HSZ.out.lt g hg).1; omega)
        have hs8 : Seg w7 w0.heap.size 48 4 v7 (t + 1) (foundV (gs ++ [⟨fk, fi, fj, .slice A' M C, M, zz⟩])) := by rw [foundV_app]; exact hs7
        clear hs7 hg7 hb7 HSEG HCN H16 HKZ HSZ
        have hgn : Hid (∀ f ∈ gs ++ [⟨fk, fi, fj, .slice A' M C, M, zz⟩], (∀ W, (∀ f ∈ fs, Rd W 1 f.v f.n (vals f.zs)) → Rd W 1 f.v f.n (vals f.zs)) ∧ f.zs.length ≤ 40) := Lib.hid (fun f hf => by
          rcases List.mem_append.1 hf with h | h
          · exact hgs.out f h
          · rw [List.mem_singleton] at h
            subst h
            exact HNW.out)
        have hgl2 : Hid ((gs ++ [(⟨fk, fi, fj, .slice A' M C, M, zz⟩ : FoundI)]).length = t + 1) := Lib.hid (by rw [List.length_append, hgl.out]; rfl)
        go_wp2_with fail
        go_roundw
        case rel => exact ⟨t + 1, _, by omega, by omega, by go_num, hgl2, hs8, hgn, hK7⟩
        case measure => simp [intOf]; omega
    · have HKR := Lib.hid hK
      have hfr : ∀ w', Kept (fun q => q = w.heap.size ∨ q = w.heap.size + 1) wr w' → Seg w' w.heap.size 48 4 u3 t (foundV gs) := fun w' hk => (hs.kept hk (fun q hq e => by have := (hs.lt q hq).1; omega)).mono (by omega)
      have HFR := Lib.hid hfr
      have hcx : wr.cell? ⟨w.heap.size, 2, none⟩ = some (.slice ao n cap) := x2
      have hxf : wr.frozen? ⟨w.heap.size, 2, none⟩ = false := hxr.frozen 2
      obtain ⟨-, A, C, rfl, -, -, -, -⟩ := hs.rd
      have hb2 : Box (wr.setCell ⟨w.heap.size, 2, none⟩ (.slice A t C)) w.heap.size #[.int .i64 vd, .int .i64 ed, .slice A t C] 24 := bset hxr 2 _
      have hk2 : Kept (Only w.heap.size) wr (wr.setCell ⟨w.heap.size, 2, none⟩ (.slice A t C)) := (Kept.refl _ wr).setCell (p := ⟨w.heap.size, 2, none⟩) (fun _ => by exact rfl) _
      have hy2 : Box (wr.setCell ⟨w.heap.size, 2, none⟩ (.slice A t C)) (w.heap.size + 1) #[.int .i64 0, .int .i64 0, .slice none 0 0] 24 := (HY.out.kept hK id).kept hk2 (fun e => by have : w.heap.size + 1 = w.heap.size := e; omega)
      have hrow : Kept (Only (w.heap.size + 1)) (wr.setCell ⟨w.heap.size, 2, none⟩ (.slice A t C)) ((wr.setCell ⟨w.heap.size, 2, none⟩ (.slice A t C)).setRow (w.heap.size + 1) #[.int .i64 vd, .int .i64 ed, .slice A t C]) := row_only _ _ _
      have hall : Kept (fun q => q = w.heap.size ∨ q = w.heap.size + 1) wr ((wr.setCell ⟨w.heap.size, 2, none⟩ (.slice A t C)).setRow (w.heap.size + 1) #[.int .i64 vd, .int .i64 ed, .slice A t C]) := (hk2.mono (fun q _ h => .inl h)).trans hrow (fun q _ h => .inr h)
      have hw : Kept No w ((wr.setCell ⟨w.heap.size, 2, none⟩ (.slice A t C)).setRow (w.heap.size + 1) #[.int .i64 vd, .int .i64 ed, .slice A t C]) := (HK.out.trans hK (fun _ _ f => f)).trans hall (fun q hq e => by omega)
      have HW := Lib.hid hw
      have HFE := Lib.hid (HFR.out _ hall)
      have HB2 := Lib.hid hb2
      have HY2 := Lib.hid hy2
      clear hrow hall hw hfr HFR hb2 hk2 hy2 hs hK HKR
      by_cases hlt1 : t < n
      case' pos => have i2 : decide ((t : Int) < 12) = false := by rw [decide_eq_false_iff_not]; omega
      case' neg => have i2 : decide ((t : Int) < n) = false := by rw [decide_eq_false_iff_not]; omega
      all_goals
        go_upto_region 10 with fail
        clear x2 hcx hxf
        generalize wr.setCell ⟨w.heap.size, 2, none⟩ (.slice A t C) = wc at *
        have b0 : wc.cell? ⟨w.heap.size, 0, none⟩ = some (.int .i64 vd) := HB2.out.cell 0
        have b1 : wc.cell? ⟨w.heap.size, 1, none⟩ = some (.int .i64 ed) := HB2.out.cell 1
        have b2 : wc.cell? ⟨w.heap.size, 2, none⟩ = some (.slice A t C) := HB2.out.cell 2
        go_wp2_with (refine wpList_store_rowTo rfl 24 _ _ rfl rfl (w.heap.size + 1) #[.int .i64 vd, .int .i64 ed, .slice A t C] (by kernel_rfl) (by kernel_rfl) 24 _ HY2.out (by kernel_rfl) (by kernel_rfl) (by kernel_rfl) ?_)
        refine bodyPost_ret (results_cell_row rfl _ _ (w.heap.size + 1) 24 #[.int .i64 vd, .int .i64 ed, .slice A t C] (0, 0) _ (by kernel_rfl) HY2.out.row Tryd.underlying24 rfl (by kernel_rfl)) rfl ?_
        exact ⟨HW.out, A, C, gs, by rw [hgl.out], by have := HFE.out; rw [hgl.out]; exact this, fun W hW f hf => (hgs.out f hf).1 W hW, by rw [hgl.out]; omega, fun f hf => (hgs.out f hf).2⟩
end Go.Proofs.YtaffaliplmfagaaDoor.Line
