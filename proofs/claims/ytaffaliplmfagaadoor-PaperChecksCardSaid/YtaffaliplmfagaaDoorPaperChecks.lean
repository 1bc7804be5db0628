/-
  PaperChecks answers true, whatever the report is. Condition: the three tables that the row lists lie as their initialisers lay them.
-/
import Derived.Test.YtaffaliplmfagaaDoorPap9
import Derived.Test.YtaffaliplmfagaaDoorPap14
import Derived.Test.YtaffaliplmfagaaDoorPap15
import Derived.Test.YtaffaliplmfagaaDoorPap16
import Derived.Test.YtaffaliplmfagaaDoorPap17
import Derived.Test.YtaffaliplmfagaaDoorOpenRep
import Derived.Test.YtaffaliplmfagaaDoorOpen
import Derived.BigQuiet
import Derived.Test.YtaffaliplmfagaaDoorDoor
import Derived.Test.YtaffaliplmfagaaDoorOpen
import Derived.Test.YtaffaliplmfagaaDoorCards
import Derived.Test.YtaffaliplmfagaaDoorTie
set_option linter.unusedVariables false
namespace Go.Proofs.YtaffaliplmfagaaDoor.paperChecks
set_option linter.unusedSimpArgs false
open Go.RowKit Go.Sort Go.Proofs.YtaffaliplmfagaaDoor.Own Go.Proofs.YtaffaliplmfagaaDoor.Conv Go.Proofs.YtaffaliplmfagaaDoor.Line Go.Proofs.YtaffaliplmfagaaDoor.Calm Go.Proofs.YtaffaliplmfagaaDoor.Oct

theorem beB_oct (x n : Nat) : ∀ c ∈ beB x n, 0 ≤ c ∧ c < 256 := by
  intro c hc
  unfold beB at hc
  rw [List.mem_map] at hc
  obtain ⟨k, _, rfl⟩ := hc
  omega
theorem octF_oct {f : FoundI} (h : ∀ z ∈ f.zs, 0 ≤ z ∧ z ≤ 7) : ∀ c ∈ octF f, 0 ≤ c ∧ c < 256 := by
  intro c hc
  unfold octF at hc
  rcases List.mem_append.1 hc with hc | hc
  · unfold pre3 at hc
    obtain ⟨x, _, hx⟩ := List.mem_flatMap.1 hc
    exact beB_oct _ _ c hx
  · rcases List.mem_append.1 hc with hc | hc
    · exact beB_oct _ _ c hc
    · have := h c hc
      omega
theorem octR_oct {vd ed : Int} {fs : List FoundI} (h : OkR vd ed fs) : Octs (octR vd ed fs) := by
  intro c hc
  unfold octR octH at hc
  rcases List.mem_append.1 hc with hc | hc
  · rcases List.mem_append.1 hc with hc | hc
    · rcases List.mem_append.1 hc with hc | hc
      · rcases List.mem_append.1 hc with hc | hc
        · rw [List.mem_singleton] at hc
          omega
        · exact beB_oct _ _ c hc
      · exact beB_oct _ _ c hc
    · exact beB_oct _ _ c hc
  · unfold octsF at hc
    obtain ⟨f, hf, hx⟩ := List.mem_flatMap.1 hc
    obtain ⟨t, ht⟩ := List.getElem?_of_mem hf
    exact octF_oct (h.fine t f ht).2.2.2 c hx
theorem octF_len (f : FoundI) : (octF f).length = 5 + f.zs.length := by
  unfold octF pre3
  simp [List.flatMap_cons, beB_len]
  omega
theorem octsF_len : ∀ fs : List FoundI, (∀ f ∈ fs, f.zs.length ≤ 40) → (octsF fs).length ≤ 45 * fs.length
  | [], _ => by simp [octsF]
  | f :: fs, h => by
    have ih := octsF_len fs (fun g hg => h g (by simp [hg]))
    have h1 := octF_len f
    have h2 := h f (by simp)
    have e : octsF (f :: fs) = octF f ++ octsF fs := rfl
    rw [e, List.length_append, List.length_cons]
    omega
theorem octR_len (vd ed : Int) {fs : List FoundI} (h : ∀ f ∈ fs, f.zs.length ≤ 40) (hn : fs.length ≤ 12) : (octR vd ed fs).length ≤ 100000 := by
  have := octsF_len fs h
  unfold octR octH
  simp only [List.length_append, beB_len, List.length_singleton]
  omega

set_option maxRecDepth 100000 in
set_option maxHeartbeats 8000000 in
theorem body (w : World) (hT : Door.Tabs w) (vd ed : Int) (u : Value) (fs : List FoundI) (h : Rd w 4 u fs.length (foundV fs)) (hrow : ∀ f ∈ fs, Rd w 1 f.v f.n (vals f.zs)) :
    Calls Tryd.prog 3 #[.agg #[.int .i64 vd, .int .i64 ed, u]] w fun e w' => e = .returned (.bool true) ∧ Below w.heap.size w w' := by
  obtain ⟨n, hn⟩ : ∃ n, fs.length = n := ⟨_, rfl⟩
  have hfr : FR w u fs := ⟨h, hrow⟩
  rw [hn] at h
  obtain ⟨-, ao, cap, rfl, -, -, -, -⟩ := h
  have hx := Box.new w #[.int .i64 vd, .int .i64 ed, .slice ao n cap] 24
  have hk := (Kept.refl No w).alloc (.cells #[.int .i64 vd, .int .i64 ed, .slice ao n cap] 24)
  have HX := Lib.hid hx
  have HK := Lib.hid hk
  have HF := Lib.hid hfr
  have HT := Lib.hid hT
  have HROW := Lib.hid hrow
  clear hx hk hfr hT hn hrow
  go_enter Tryd.func3, Tryd.ntmps3
  go_upto_region 1 with fail
  generalize w.alloc (.cells #[.int .i64 vd, .int .i64 ed, .slice ao n cap] 24) = w0 at *
  go_wp2_with fail
  refine (alive_is w0 (HT.out.kept HK.out)).mono ?_
  rintro e w1 ⟨rfl, k1⟩
  have hx1 := HX.out.kept k1 id
  have hk1 := HK.out.trans k1 (fun _ _ f => f)
  have c0 : w1.cell? ⟨w.heap.size, 0, none⟩ = some (.int .i64 vd) := hx1.cell 0
  have c1 : w1.cell? ⟨w.heap.size, 1, none⟩ = some (.int .i64 ed) := hx1.cell 1
  have c2 : w1.cell? ⟨w.heap.size, 2, none⟩ = some (.slice ao n cap) := hx1.cell 2
  go_wp2_with fail
  refine (few_is vd ed ao n cap fs w1 (HF.out.kept hk1)).mono ?_
  rintro e w2 ⟨k2, A, C, gs, rfl, hseg, hrows, hg12, hg40⟩
  obtain ⟨q, hq⟩ : ∃ q, gs.length = q := ⟨_, rfl⟩
  rw [hq] at hseg ⊢
  have hq12 : q ≤ 12 := by omega
  have hx2 := hx1.kept k2 id
  have hlt := hx1.lt
  have hrs : Kept (Only w.heap.size) w2 (w2.setRow w.heap.size #[.int .i64 vd, .int .i64 ed, .slice A q C]) := row_only _ _ _
  have hk3 := (hk1.trans k2 (fun _ _ f => f)).trans hrs (fun z hz e => by have : z = w.heap.size := e; omega)
  have hs3 := hseg.kept hrs (fun z hz e => by have h1 := (hseg.lt z hz).1; have h2 : z = w.heap.size := e; omega)
  have hf3 : FR (w2.setRow w.heap.size #[.int .i64 vd, .int .i64 ed, .slice A q C]) (.slice A q C) gs := ⟨by rw [hq]; exact hs3.rd, fun f hf => hrows _ (fun f' hf' => (HROW.out f' hf').kept hk3 (fun _ _ f => f)) f hf⟩
  have HX2 := Lib.hid hx2
  have HX3 := Lib.hid (hx2.row (cs := #[.int .i64 vd, .int .i64 ed, .slice A q C]))
  have HF3 := Lib.hid hf3
  have HK3 := Lib.hid hk3
  have HTOT := Lib.hid (octR_len vd ed hg40 hg12)
  have HSM : Hid (SmR gs) := Lib.hid ⟨by omega, fun t f hf => by have := hg40 f (List.mem_of_getElem? hf); omega⟩
  have HP4 : Hid (∀ f ∈ gs, f.zs.length ≤ 4096) := Lib.hid (fun f hf => by have := hg40 f hf; omega)
  clear c0 c1 c2 hx1 hk1 hx2 hseg hrows hq hg12 hg40 hrs hk3 hs3 hf3 k1 k2 HX HK HF HROW
  go_upto_region 4 with (refine wpList_store_rowTo rfl 24 _ _ rfl rfl w.heap.size #[.int .i64 vd, .int .i64 ed, .slice A q C] (by kernel_rfl) (by kernel_rfl) 24 _ HX2.out (by kernel_rfl) (by kernel_rfl) (by kernel_rfl) ?_)
  clear HX2
  generalize w2.setRow w.heap.size #[.int .i64 vd, .int .i64 ed, .slice A q C] = w3 at *
  have c0 : w3.cell? ⟨w.heap.size, 0, none⟩ = some (.int .i64 vd) := HX3.out.cell 0
  have c1 : w3.cell? ⟨w.heap.size, 1, none⟩ = some (.int .i64 ed) := HX3.out.cell 1
  have c2 : w3.cell? ⟨w.heap.size, 2, none⟩ = some (.slice A q C) := HX3.out.cell 2
  have HPT := Lib.hid (paperput_is vd ed A q C gs w3 HF3.out HTOT.out)
  go_wp2_with fail
  refine HPT.out.mono ?_
  rintro e w4 ⟨k4, hor4⟩
  have HX4 := Lib.hid (HX3.out.kept k4 id)
  have HF4 := Lib.hid (HF3.out.kept k4)
  have HK4 := Lib.hid (HK3.out.trans k4 (fun _ _ f => f))
  clear c0 c1 c2 HX3 HF3 HK3 HPT k4
  have c0 : w4.cell? ⟨w.heap.size, 0, none⟩ = some (.int .i64 vd) := HX4.out.cell 0
  have c1 : w4.cell? ⟨w.heap.size, 1, none⟩ = some (.int .i64 ed) := HX4.out.cell 1
  have c2 : w4.cell? ⟨w.heap.size, 2, none⟩ = some (.slice A q C) := HX4.out.cell 2
  cases hok : okR vd ed gs with
  | false =>
    rcases hor4 with ⟨_, rfl⟩ | ⟨hh, _⟩
    case' inr => rw [hok] at hh; cases hh
    case' inl =>
    have HPX : Hid (Calls Tryd.prog 8 #[.agg #[.int .i64 vd, .int .i64 ed, .slice A q C]] w4 fun e w' => e = .returned (.tuple #[.string ⟨#[]⟩, .int .i64 3]) ∧ Kept No w4 w') := Lib.hid (by
      refine (papertext_is vd ed A q C gs w4 (HT.out.kept HK4.out) HF4.out HSM.out).mono ?_
      rintro e w' ⟨hk, ⟨_, rfl⟩ | ⟨hh, _⟩⟩
      · exact ⟨rfl, hk⟩
      · rw [hok] at hh; cases hh)
    have HMY : Hid (∀ w', FR w' (.slice A q C) gs → Calls Tryd.prog 9 #[.agg #[.int .i64 vd, .int .i64 ed, .slice A q C]] w' fun e w'' => e = .returned (.bool false) ∧ Kept No w' w'') := Lib.hid (fun w' h => by rw [← hok]; exact may_is vd ed A q C gs w' h HP4.out)
    have HCK : Hid (∀ w', FR w' (.slice A q C) gs → Calls Tryd.prog 10 #[.agg #[.int .i64 vd, .int .i64 ed, .slice A q C]] w' fun e w'' => e = .returned (.int .i64 3) ∧ Kept No w' w'') := Lib.hid (fun w' h => by
      have := papercheck_is vd ed A q C gs w' h
      rw [chkR, hok] at this
      exact this)
    clear hok
    go_wp2_with fail
    refine HPX.out.mono ?_
    rintro e w5 ⟨rfl, k5⟩
    have HX5 := Lib.hid (HX4.out.kept k5 id)
    have HF5 := Lib.hid (HF4.out.kept k5)
    have HK5 := Lib.hid (HK4.out.trans k5 (fun _ _ f => f))
    clear c0 c1 c2 HX4 HF4 HK4 HPX k5
    have c0 : w5.cell? ⟨w.heap.size, 0, none⟩ = some (.int .i64 vd) := HX5.out.cell 0
    have c1 : w5.cell? ⟨w.heap.size, 1, none⟩ = some (.int .i64 ed) := HX5.out.cell 1
    have c2 : w5.cell? ⟨w.heap.size, 2, none⟩ = some (.slice A q C) := HX5.out.cell 2
    go_wp2_with fail
    refine (HMY.out _ HF5.out).mono ?_
    rintro e w6 ⟨rfl, k6⟩
    have HX6 := Lib.hid (HX5.out.kept k6 id)
    have HF6 := Lib.hid (HF5.out.kept k6)
    have HK6 := Lib.hid (HK5.out.trans k6 (fun _ _ f => f))
    clear c0 c1 c2 HX5 HF5 HK5 HMY k6
    have c0 : w6.cell? ⟨w.heap.size, 0, none⟩ = some (.int .i64 vd) := HX6.out.cell 0
    have c1 : w6.cell? ⟨w.heap.size, 1, none⟩ = some (.int .i64 ed) := HX6.out.cell 1
    have c2 : w6.cell? ⟨w.heap.size, 2, none⟩ = some (.slice A q C) := HX6.out.cell 2
    go_wp2_with fail
    refine (HCK.out _ HF6.out).mono ?_
    rintro e w7 ⟨rfl, k7⟩
    have hk7 := HK6.out.trans k7 (fun _ _ f => f)
    clear c0 c1 c2
    go_wp2_with fail
    go_ret
    exact ⟨rfl, hk7.below (Nat.le_refl _) (fun _ _ => id)⟩
  | true =>
    rcases hor4 with ⟨hh, _⟩ | ⟨_, v, rfl, hs4⟩
    case' inl => rw [hok] at hh; cases hh
    case' inr =>
    have HOC := Lib.hid (octR_oct (okR_of hok))
    obtain ⟨sx, hsx⟩ : ∃ s : ByteArray, (⟨(textR vd ed gs).toArray⟩ : ByteArray) = s := ⟨_, rfl⟩
    have HPX : Hid (Calls Tryd.prog 8 #[.agg #[.int .i64 vd, .int .i64 ed, .slice A q C]] w4 fun e w' => e = .returned (.tuple #[.string sx, .int .i64 0]) ∧ Kept No w4 w') := Lib.hid (by
      refine (papertext_is vd ed A q C gs w4 (HT.out.kept HK4.out) HF4.out HSM.out).mono ?_
      rintro e w' ⟨hk, ⟨hh, _⟩ | ⟨_, rfl⟩⟩
      · rw [hok] at hh; cases hh
      · rw [hsx]; exact ⟨rfl, hk⟩)
    have HMY : Hid (∀ w', FR w' (.slice A q C) gs → Calls Tryd.prog 9 #[.agg #[.int .i64 vd, .int .i64 ed, .slice A q C]] w' fun e w'' => e = .returned (.bool true) ∧ Kept No w' w'') := Lib.hid (fun w' h => by rw [← hok]; exact may_is vd ed A q C gs w' h HP4.out)
    have HCK : Hid (∀ w', FR w' (.slice A q C) gs → Calls Tryd.prog 10 #[.agg #[.int .i64 vd, .int .i64 ed, .slice A q C]] w' fun e w'' => e = .returned (.int .i64 0) ∧ Kept No w' w'') := Lib.hid (fun w' h => by
      have := papercheck_is vd ed A q C gs w' h
      rw [chkR, hok] at this
      exact this)
    have HOT : Hid (∀ w', FR w' (.slice A q C) gs → Calls Tryd.prog 11 #[.agg #[.int .i64 vd, .int .i64 ed, .slice A q C]] w' fun e w'' => ∃ v, e = .returned v ∧ Rd w'' 1 v (octR vd ed gs).length (bv (octR vd ed gs)) ∧ Kept No w' w'') := Lib.hid (fun w' h => lawoctets_is vd ed A q C gs w' h hok HTOT.out)
    have HTX : Hid (∀ w', Door.Tabs w' → FR w' (.slice A q C) gs → Calls Tryd.prog 12 #[.agg #[.int .i64 vd, .int .i64 ed, .slice A q C]] w' fun e w'' => e = .returned (.string sx) ∧ Kept No w' w'') := Lib.hid (fun w' ht h => by rw [← hsx]; exact lawtext_is vd ed A q C gs w' ht h HSM.out hok)
    have HS4 := Lib.hid hs4.rd
    obtain ⟨s1, hs1⟩ : ∃ s : ByteArray, (⟨(u8s (octR vd ed gs)).toArray⟩ : ByteArray) = s := ⟨_, rfl⟩
    have HCV : Hid (∀ (w : World) (v : Value) (n : Nat), Rd w 1 v n (bv (octR vd ed gs)) → ∀ p : KW w, (convert 27 9 v).run Tryd.prog p.w = .ok (.string s1) p.w) := Lib.hid (fun w v n hs p => by
      rw [← hs1]
      refine conv_string p.w _ _ 5 v n _ Tryd.underlying27 Tryd.underlying5 Tryd.underlying9 ?_
      rw [u8s_cells _ HOC.out]
      exact hs.kept p.h (fun _ _ f => f))
    generalize (octR vd ed gs).length = L at *
    clear hok hs4 hs1 hsx
    go_wp2_with fail
    refine HPX.out.mono ?_
    rintro e w5 ⟨rfl, k5⟩
    have HX5 := Lib.hid (HX4.out.kept k5 id)
    have HF5 := Lib.hid (HF4.out.kept k5)
    have HK5 := Lib.hid (HK4.out.trans k5 (fun _ _ f => f))
    have HS5 := Lib.hid (HS4.out.kept k5 (fun _ _ f => f))
    clear c0 c1 c2 HX4 HF4 HK4 HPX k5 HS4
    have c0 : w5.cell? ⟨w.heap.size, 0, none⟩ = some (.int .i64 vd) := HX5.out.cell 0
    have c1 : w5.cell? ⟨w.heap.size, 1, none⟩ = some (.int .i64 ed) := HX5.out.cell 1
    have c2 : w5.cell? ⟨w.heap.size, 2, none⟩ = some (.slice A q C) := HX5.out.cell 2
    go_wp2_with fail
    refine (HMY.out _ HF5.out).mono ?_
    rintro e w6 ⟨rfl, k6⟩
    have HX6 := Lib.hid (HX5.out.kept k6 id)
    have HF6 := Lib.hid (HF5.out.kept k6)
    have HK6 := Lib.hid (HK5.out.trans k6 (fun _ _ f => f))
    have HS6 := Lib.hid (HS5.out.kept k6 (fun _ _ f => f))
    clear c0 c1 c2 HX5 HF5 HK5 HMY k6 HS5
    go_upto_region 8 with fail
    obtain ⟨c0, c1, c2⟩ := KW.box3 HX6.out
    have hcv := HCV.out _ _ _ HS6.out
    refine wp_region_dyn ([0] ++ 1 :: ([2, 3, 4, 5, 6, 7, 8, 9, 10, 11, 12, 13, 14] ++ 15 :: ([16, 17, 18, 19, 20, 21] ++ 22 :: ([23, 24, 25] ++ [])))) (by kernel_rfl) (by kernel_rfl) ?_
    refine dyn_reads _ _ (by kernel_rfl) ?_
    simp only [sel, List.filterMap_cons, List.filterMap_nil, List.getElem?_cons_succ, List.getElem?_cons_zero]
    repeat (show wpQuiet _ _ _ _ (_ :: _) _; go_big_quiet_step (fail))
    refine wpQuiet_nil ?_
    refine dyn_fn 10 #[.agg #[.int .i64 vd, .int .i64 ed, .slice A q C]] rfl rfl rfl (by intro w; go_simp) ?_
    intro p
    refine (HCK.out p.w (HF6.out.kept p.h)).mono ?_
    rintro e w7 ⟨rfl, k7⟩
    refine ⟨_, rfl, k7, ?_⟩
    have hk67 := p.h.trans k7 (fun _ _ f => f)
    have HX7 := Lib.hid (HX6.out.kept hk67 id)
    have HF7 := Lib.hid (HF6.out.kept hk67)
    have HK7 := Lib.hid (HK6.out.trans hk67 (fun _ _ f => f))
    have HS7 := Lib.hid (HS6.out.kept hk67 (fun _ _ f => f))
    clear c0 c1 c2 hcv HX6 HF6 HK6 HS6 k7 hk67
    obtain ⟨c0, c1, c2⟩ := KW.box3 HX7.out
    have hcv := HCV.out _ _ _ HS7.out
    simp only [Act.put, List.setIfInBounds_toArray, List.set]
    refine dyn_reads _ _ (by kernel_rfl) ?_
    simp only [sel, List.filterMap_cons, List.filterMap_nil, List.getElem?_cons_succ, List.getElem?_cons_zero]
    repeat (show wpQuiet _ _ _ _ (_ :: _) _; go_big_quiet_step (fail))
    refine wpQuiet_nil ?_
    refine dyn_fn_g 11 #[.agg #[.int .i64 vd, .int .i64 ed, .slice A q C]] rfl rfl rfl (by intro w; go_simp) ?_
    intro p
    refine (HOT.out p.w (HF7.out.kept p.h)).mono ?_
    rintro e w8 ⟨vo, rfl, hr8, k8⟩
    refine ⟨_, rfl, k8, ?_⟩
    have hk78 := p.h.trans k8 (fun _ _ f => f)
    have HX8 := Lib.hid (HX7.out.kept hk78 id)
    have HF8 := Lib.hid (HF7.out.kept hk78)
    have HK8 := Lib.hid (HK7.out.trans hk78 (fun _ _ f => f))
    clear c0 c1 c2 hcv HX7 HF7 HK7 HS7 k8 hk78
    obtain ⟨c0, c1, c2⟩ := KW.box3 HX8.out
    have hcv := HCV.out _ _ _ hr8
    simp only [Act.put, List.setIfInBounds_toArray, List.set]
    refine dyn_reads _ _ (by kernel_rfl) ?_
    simp only [sel, List.filterMap_cons, List.filterMap_nil, List.getElem?_cons_succ, List.getElem?_cons_zero]
    repeat (show wpQuiet _ _ _ _ (_ :: _) _; go_big_quiet_step (fail))
    refine wpQuiet_nil ?_
    refine dyn_fn_g 12 #[.agg #[.int .i64 vd, .int .i64 ed, .slice A q C]] rfl rfl rfl (by intro w; go_simp) ?_
    intro p
    refine (HTX.out p.w (HT.out.kept (HK8.out.trans p.h (fun _ _ f => f))) (HF8.out.kept p.h)).mono ?_
    rintro e w9 ⟨rfl, k9⟩
    refine ⟨_, rfl, k9, ?_⟩
    have HK9 := Lib.hid (HK8.out.trans (p.h.trans k9 (fun _ _ f => f)) (fun _ _ f => f))
    clear c0 c1 c2 hcv
    simp only [Act.put, List.setIfInBounds_toArray, List.set]
    refine dyn_reads (rest := []) [23, 24, 25] _ (by kernel_rfl) ?_
    simp only [sel, List.filterMap_cons, List.filterMap_nil, List.getElem?_cons_succ, List.getElem?_cons_zero]
    repeat (show wpQuiet _ _ _ _ (_ :: _) _; go_big_quiet_step (fail))
    refine wpQuiet_nil ?_
    refine dyn_nil fun p => ?_
    have hkE := HK9.out.trans p.h (fun _ _ f => f)
    go_wp2_with fail
    go_ret
    exact ⟨rfl, hkE.below (Nat.le_refl _) (fun _ _ => id)⟩

theorem walk (w : World) (hT : Door.Tabs w) (vd ed : Int) (u : Value) (fs : List FoundI) (h : Rd w 4 u fs.length (foundV fs)) (hrow : ∀ f ∈ fs, Rd w 1 f.v f.n (vals f.zs)) :
    Calls Tryd.prog 3 #[.agg #[.int .i64 vd, .int .i64 ed, u]] w fun e w' => e = .returned (.bool true) ∧ Below w.heap.size w w' :=
  body w hT vd ed u fs h hrow

section
open Go.ChangeShapes Go.WideShapes Go.ChangeAt Go.ChangeMaps Go.RowKit Go.Proofs.YtaffaliplmfagaaDoor.Own Go.Proofs.YtaffaliplmfagaaDoor.Open Go.Proofs.YtaffaliplmfagaaDoor.Door

theorem own : ownKnob Tryd.prog.godebug = none := by kernel_rfl
theorem laidOut : laidOutB Tryd.prog = true := by kernel_rfl

theorem door_met (os : Os) (args : Array Value) : laidMetH Tryd.prog Rows.paperChecksRow.laid ((World.doorLaid Tryd.prog 24 os).forCall (fun _ _ => 0) ⟨#[], args, []⟩).memory :=
  laidMetH_of_parts3 (fuel := 8) (laidMet_of_run' 8 (by kernel_rfl) (by kernel_rfl)) (by kernel_rfl) (by kernel_rfl)

set_option maxRecDepth 100000 in
theorem lifted (os : Os) (started : os.Started) (H : Type) (enc : TypeId × Value → H) :
    ReturnsInHanded {} Tryd.checked os 3 .any (fun w args => (Rows.paperChecksSpec.pre enc Tryd.prog Tryd.f3 [] false w args ∧ laidMetH Tryd.prog Rows.paperChecksRow.laid w) ∧ sizedMet enc Tryd.prog Tryd.f3 (OpenSpec.ofChange Rows.paperChecksSpec) false w args) (Rows.paperChecksSpec.post enc Tryd.prog Tryd.f3 false true false false) := by
  refine returnsInHanded_of_change_and (C := Tryd.checked) (X := fun w _ => laidMetH Tryd.prog Rows.paperChecksRow.laid w) (fun _ _ _ hh h => h.of_heap hh) own started (by kernel_rfl) Tryd.func3
    (ChangeSpec.witness_shaped (enc := enc) (C := Tryd.checked) (os := os) (X := fun w _ => laidMetH Tryd.prog Rows.paperChecksRow.laid w) false (World.doorLaid Tryd.prog 24 os) #[.agg #[.int .i64 0, .int .i64 0, .slice none 0 0]] 8 rfl (World.shaped_of_RefB (by kernel_rfl) (by kernel_rfl)) (by kernel_rfl) (by kernel_rfl) (by kernel_rfl) (door_met os _)) ?_
  intro W base args ds gs before hval0 hW _ _ hL _
  have hval : ∀ (j : Nat) t v, Tryd.f3.params[j]? = some t → args[j]? = some v → Value.okWide Tryd.prog W .any base t v := hval0
  have hW' := hW
  obtain ⟨p, q, hA0, hV, rfl, hfz, hnd⟩ := hW
  have hA : DataW.TrodAll enc Tryd.prog W 0 (fun _ => true) true Tryd.f3.params.toList args.toList ds p := hA0
  rw [Tryd.params3] at hA hval
  have hA1 := hA
  obtain ⟨v0, vs0, d0, ds0, p0, q0, hargs, rfl, rfl, h0, r0⟩ := trodAll_cons hA
  obtain ⟨rfl, rfl, rfl⟩ := trodAll_nil r0
  obtain rfl : args = #[v0] := by cases args; simp_all
  obtain ⟨rfl, rfl⟩ := trodVars_none hV
  obtain ⟨ra0, rb0, ru0, rfs0, rfl, rrd0, rrw0⟩ := open_report Tryd.underlying24 (by kernel_rfl) (by kernel_rfl) (by kernel_rfl) (by kernel_rfl) Tryd.underlying3 Tryd.underlying3 Tryd.underlying22 (by kernel_rfl) (by kernel_rfl) (by kernel_rfl) (by kernel_rfl) (by kernel_rfl) Tryd.underlying3 Tryd.underlying3 Tryd.underlying3 Tryd.underlying46 (by kernel_rfl) (by decide) (hval 0 24 v0 rfl rfl) h0
  clear hA0 hval0
  simp only [List.append_nil] at hW' hA1
  refine (walk W (tabs_of hL) ra0 rb0 ru0 rfs0 rrd0 rrw0).mono fun e W' ⟨he, hb⟩ => ?_
  subst he
  exact ⟨_, rfl, ⟨_, _, _, [], _, [], hW', trodAll_mk1 (shut_bool Tryd.underlying4 _), below_args laidOut hb (by kernel_rfl) hA1 (fun x hx => by simpa using hW'.lt x hx), rfl, hb.frame _, fun h => by cases h⟩⟩

theorem said : Rows.PaperChecksSaid :=
  OpenClaim.holds_of_wide 3 Tryd.f3 rfl rfl rfl rfl rfl rfl rfl ⟨rfl, rfl, rfl, rfl, rfl⟩ rfl rfl rfl rfl rfl (by kernel_rfl) Tryd.func3 (by kernel_rfl)
    (of_decide_eq_true (by kernel_rfl)) (by unfold Func.isWrapper; first | (rw [if_pos (by decide +kernel)]; kernel_rfl) | (rw [if_neg (by decide +kernel)]; exact ⟨rfl, rfl⟩))
    (fun os started H enc _ => lifted os started H enc)

theorem proved : Rows.PaperChecksCardSaid :=
  Claim7.holds_tied_plain_at .later [] [.data, .data, .data] true Rows.paperChecksCard.stood.harness true
    said (fun _ h => by cases h) (by kernel_rfl) (fun _ h => by cases h) paperChecks_row_tie rfl ⟨rfl, rfl⟩ (by kernel_rfl) rfl
    (fun f fn hf hfn => by
      obtain rfl : f = 3 := Option.some.inj ((show Tryd.prog.funcNamed "warrener/warrenerlaw40.PaperChecks" = some 3 by kernel_rfl).symm.trans hf) |>.symm
      obtain rfl : fn = Tryd.f3 := (Option.some.inj (Tryd.func3.symm.trans hfn)).symm
      exact ⟨by kernel_rfl, fun j t ht => by
        have hm : t ∈ Tryd.f3.params := Array.mem_of_getElem? ht
        have hall : (Tryd.f3.params.all fun u => !Tryd.prog.wantsStandIn u) = true := by kernel_rfl
        have := Array.all_eq_true_iff_forall_mem.1 hall t hm
        exact (show Tryd.prog.wantsStandIn t = false by simpa using this)⟩)
    (by kernel_rfl)
end
end Go.Proofs.YtaffaliplmfagaaDoor.paperChecks
