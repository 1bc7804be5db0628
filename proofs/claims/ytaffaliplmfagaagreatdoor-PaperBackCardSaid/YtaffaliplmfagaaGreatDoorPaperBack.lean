/-
  PaperBack answers true, whatever the report is. Condition: the seven variables that the row lists lie as their initialisers lay them.
-/
import Derived.Test.YtaffaliplmfagaaGreatDoorPap9
import Derived.Test.YtaffaliplmfagaaGreatDoorPapMay
import Derived.Test.YtaffaliplmfagaaGreatDoorPapOcts
import Derived.Test.YtaffaliplmfagaaGreatDoorPapFew
import Derived.Test.YtaffaliplmfagaaGreatDoorPapLines
import Derived.Test.YtaffaliplmfagaaGreatDoorOpens
import Derived.BigQuiet
import Derived.Lay
import Derived.MakeChecks
import Derived.Test.YtaffaliplmfagaaGreatDoorDoor
import Derived.Test.YtaffaliplmfagaaGreatDoorCards
import Derived.Test.YtaffaliplmfagaaGreatDoorTie
set_option linter.unusedVariables false
namespace Go.Proofs.YtaffaliplmfagaaGreatDoor.paperBack
set_option linter.unusedSimpArgs false
open Go.RowKit Go.Sort Go.Proofs.YtaffaliplmfagaaGreatDoor.Own Go.Proofs.YtaffaliplmfagaaGreatDoor.Conv Go.Proofs.YtaffaliplmfagaaGreatDoor.Line Go.Proofs.YtaffaliplmfagaaGreatDoor.Calm Go.Proofs.YtaffaliplmfagaaGreatDoor.Oct

theorem cells3 {w : World} {b : Nat} {x y z : Value} {t : TypeId} (h : Box w b #[x, y, z] t) : w.cell? ⟨b, 0, none⟩ = some x ∧ w.cell? ⟨b, 1, none⟩ = some y ∧ w.cell? ⟨b, 2, none⟩ = some z := ⟨h.cell 0, h.cell 1, h.cell 2⟩
theorem beB_oct (x n : Nat) : ∀ c ∈ beB x n, 0 ≤ c ∧ c < 256 := by
  intro c hc
  unfold beB at hc
  rw [List.mem_map] at hc
  obtain ⟨k, _, rfl⟩ := hc
  omega
theorem octF_oct {f : FoundI} (h : ∀ z ∈ f.zs, 0 ≤ z ∧ z ≤ 7) : ∀ c ∈ octF f, 0 ≤ c ∧ c < 256 := by
  intro c hc
  unfold octF at hc
  rcases List.mem_append.1 hc with hc | hc
  · unfold pre3 at hc
    obtain ⟨x, _, hx⟩ := List.mem_flatMap.1 hc
    exact beB_oct _ _ c hx
  · rcases List.mem_append.1 hc with hc | hc
    · exact beB_oct _ _ c hc
    · have := h c hc
      omega
theorem octR_oct {vd ed : Int} {fs : List FoundI} (h : OkR vd ed fs) : Octs (octR vd ed fs) := by
  intro c hc
  unfold octR octH at hc
  rcases List.mem_append.1 hc with hc | hc
  · rcases List.mem_append.1 hc with hc | hc
    · rcases List.mem_append.1 hc with hc | hc
      · rcases List.mem_append.1 hc with hc | hc
        · rw [List.mem_singleton] at hc
          omega
        · exact beB_oct _ _ c hc
      · exact beB_oct _ _ c hc
    · exact beB_oct _ _ c hc
  · unfold octsF at hc
    obtain ⟨f, hf, hx⟩ := List.mem_flatMap.1 hc
    obtain ⟨t, ht⟩ := List.getElem?_of_mem hf
    exact octF_oct (h.fine t f ht).2.2.2 c hx
theorem octF_len (f : FoundI) : (octF f).length = 5 + f.zs.length := by
  unfold octF pre3
  simp [List.flatMap_cons, beB_len]
  omega
theorem octsF_len : ∀ fs : List FoundI, (∀ f ∈ fs, f.zs.length ≤ 40) → (octsF fs).length ≤ 45 * fs.length
  | [], _ => by simp [octsF]
  | f :: fs, h => by
    have ih := octsF_len fs (fun g hg => h g (by simp [hg]))
    have h1 := octF_len f
    have h2 := h f (by simp)
    have e : octsF (f :: fs) = octF f ++ octsF fs := rfl
    rw [e, List.length_append, List.length_cons]
    omega
theorem octR_len (vd ed : Int) {fs : List FoundI} (h : ∀ f ∈ fs, f.zs.length ≤ 40) (hn : fs.length ≤ 12) : 1 ≤ (octR vd ed fs).length ∧ (octR vd ed fs).length ≤ 1000 := by
  have := octsF_len fs h
  unfold octR octH
  simp only [List.length_append, beB_len, List.length_singleton]
  omega

/-- What Get answers of what was put. -/
theorem get_octets (vd ed : Int) (gs : List FoundI) (hok : okR vd ed gs = true) (h12 : gs.length ≤ 12) (h40 : ∀ f ∈ gs, f.zs.length ≤ 40) (v : Value) (w : World) (h : Rd w 1 v (octR vd ed gs).length (bv (octR vd ed gs))) :
    Calls Tryz.prog 10 #[v] w fun e w' => Kept No w w' ∧ ∃ A C fs, fs.length = gs.length ∧ e = .returned (.tuple #[.agg #[.int .i64 vd, .int .i64 ed, .slice A fs.length C], .int .i64 ((octR vd ed gs).length : Nat), .int .i64 0]) ∧ fs.map keyF = gs.map keyF ∧ FR w' (.slice A fs.length C) fs := by
  have hor := okR_of hok
  obtain ⟨hl1, hl2⟩ := octR_len vd ed h40 h12
  obtain ⟨p1, p2, p3, p4⟩ := got_put hor
  obtain ⟨-, ao, cap, rfl, -, -, -, hR⟩ := id h
  obtain ⟨g, o, rfl, -, -⟩ := hR (by omega)
  refine (paperget_is g o _ cap (octR vd ed gs) w h (octR_oct hor) hl1 hl2).mono ?_
  rintro e w' ⟨hk, hr⟩
  rw [p1, p3, p4] at hr
  rcases hr with ⟨h0, _⟩ | ⟨-, -, fs, hfs, hr⟩
  · exact absurd rfl h0
  · rw [p2] at hfs
    have hokf : okR vd ed fs = true := by rw [okR_same hfs]; exact hok
    rcases hr with ⟨h1, _⟩ | ⟨_, A, C, rfl, hf⟩
    · rw [hokf] at h1; cases h1
    · exact ⟨hk, A, C, fs, by have := congrArg List.length hfs; simpa using this, rfl, hfs, hf⟩

set_option maxRecDepth 100000 in
set_option maxHeartbeats 8000000 in
theorem body (w : World) (hT : Door.Tabs w) (vd ed : Int) (u : Value) (fs : List FoundI) (h : Rd w 4 u fs.length (foundV fs)) (hrow : ∀ f ∈ fs, Rd w 1 f.v f.n (vals f.zs)) :
    Calls Tryz.prog 3 #[.agg #[.int .i64 vd, .int .i64 ed, u]] w fun e w' => e = .returned (.bool true) ∧ Below w.heap.size w w' := by
  obtain ⟨n, hn⟩ : ∃ n, fs.length = n := ⟨_, rfl⟩
  have hfr : FR w u fs := ⟨h, hrow⟩
  rw [hn] at h
  obtain ⟨-, ao, cap, rfl, -, -, -, -⟩ := h
  have hx := Box.new w #[.int .i64 vd, .int .i64 ed, .slice ao n cap] 24
  have hk := (Kept.refl No w).alloc (.cells #[.int .i64 vd, .int .i64 ed, .slice ao n cap] 24)
  have HX := Lib.hid hx
  have HK := Lib.hid hk
  have HF := Lib.hid hfr
  have HT := Lib.hid hT
  have HROW := Lib.hid hrow
  clear hx hk hfr hT hn hrow
  go_enter Tryz.func3, Tryz.ntmps3
  go_upto_region 1 with fail
  generalize w.alloc (.cells #[.int .i64 vd, .int .i64 ed, .slice ao n cap] 24) = w0 at *
  go_wp2_with fail
  refine (alive_is w0 (HT.out.kept HK.out)).mono ?_
  rintro e w1 ⟨rfl, k1⟩
  have hx1 := HX.out.kept k1 id
  have hk1 := HK.out.trans k1 (fun _ _ f => f)
  have c0 : w1.cell? ⟨w.heap.size, 0, none⟩ = some (.int .i64 vd) := hx1.cell 0
  have c1 : w1.cell? ⟨w.heap.size, 1, none⟩ = some (.int .i64 ed) := hx1.cell 1
  have c2 : w1.cell? ⟨w.heap.size, 2, none⟩ = some (.slice ao n cap) := hx1.cell 2
  go_wp2_with fail
  refine (few_is vd ed ao n cap fs w1 (HF.out.kept hk1)).mono ?_
  rintro e w2 ⟨k2, A, C, gs, rfl, hseg, hrows, hg12, hg40⟩
  obtain ⟨q, hq⟩ : ∃ q, gs.length = q := ⟨_, rfl⟩
  rw [hq] at hseg ⊢
  have hq12 : q ≤ 12 := by omega
  have hx2 := hx1.kept k2 id
  have hlt := hx1.lt
  have hrs : Kept (Only w.heap.size) w2 (w2.setRow w.heap.size #[.int .i64 vd, .int .i64 ed, .slice A q C]) := row_only _ _ _
  have hk3 := (hk1.trans k2 (fun _ _ f => f)).trans hrs (fun z hz e => by have : z = w.heap.size := e; omega)
  have hs3 := hseg.kept hrs (fun z hz e => by have h1 := (hseg.lt z hz).1; have h2 : z = w.heap.size := e; omega)
  have hf3 : FR (w2.setRow w.heap.size #[.int .i64 vd, .int .i64 ed, .slice A q C]) (.slice A q C) gs := ⟨by rw [hq]; exact hs3.rd, fun f hf => hrows _ (fun f' hf' => (HROW.out f' hf').kept hk3 (fun _ _ f => f)) f hf⟩
  have HX2 := Lib.hid hx2
  have HX3 := Lib.hid (hx2.row (cs := #[.int .i64 vd, .int .i64 ed, .slice A q C]))
  have HF3 := Lib.hid hf3
  have HK3 := Lib.hid hk3
  have HTOT := Lib.hid (octR_len vd ed hg40 hg12)
  have H12 := Lib.hid hg12
  have H40 := Lib.hid hg40
  have HQ := Lib.hid hq
  have HSM : Hid (SmR gs) := Lib.hid ⟨by omega, fun t f hf => by have := hg40 f (List.mem_of_getElem? hf); omega⟩
  have HP4 : Hid (∀ f ∈ gs, f.zs.length ≤ 4096) := Lib.hid (fun f hf => by have := hg40 f hf; omega)
  clear c0 c1 c2 hx1 hk1 hx2 hseg hrows hq hg12 hg40 hrs hk3 hs3 hf3 k1 k2 HX HK HF HROW
  go_upto_region 4 with (refine wpList_store_rowTo rfl 24 _ _ rfl rfl w.heap.size #[.int .i64 vd, .int .i64 ed, .slice A q C] (by kernel_rfl) (by kernel_rfl) 24 _ HX2.out (by kernel_rfl) (by kernel_rfl) (by kernel_rfl) ?_)
  clear HX2
  generalize w2.setRow w.heap.size #[.int .i64 vd, .int .i64 ed, .slice A q C] = w3 at *
  have c0 : w3.cell? ⟨w.heap.size, 0, none⟩ = some (.int .i64 vd) := HX3.out.cell 0
  have c1 : w3.cell? ⟨w.heap.size, 1, none⟩ = some (.int .i64 ed) := HX3.out.cell 1
  have c2 : w3.cell? ⟨w.heap.size, 2, none⟩ = some (.slice A q C) := HX3.out.cell 2
  cases hok : okR vd ed gs with
  | false =>
    have HMY := Lib.hid (may_is vd ed A q C gs w3 HF3.out HP4.out)
    rw [hok] at HMY
    clear hok
    go_wp2_with fail
    refine HMY.out.mono ?_
    rintro e w4 ⟨rfl, k4⟩
    have hk4 := HK3.out.trans k4 (fun _ _ f => f)
    clear c0 c1 c2
    go_wp2_with fail
    go_ret
    exact ⟨rfl, hk4.below (Nat.le_refl _) (fun _ _ => id)⟩
  | true =>
    have HMY := Lib.hid (may_is vd ed A q C gs w3 HF3.out HP4.out)
    rw [hok] at HMY
    have HOT : Hid (∀ w', FR w' (.slice A q C) gs → Calls Tryz.prog 8 #[.agg #[.int .i64 vd, .int .i64 ed, .slice A q C]] w' fun e w'' => ∃ v, e = .returned v ∧ Rd w'' 1 v (octR vd ed gs).length (bv (octR vd ed gs)) ∧ Kept No w' w'') := Lib.hid (fun w' h => lawoctets_is vd ed A q C gs w' h hok (by have := HTOT.out; omega))
    obtain ⟨sx, hsx⟩ : ∃ s : ByteArray, (⟨(textR vd ed gs).toArray⟩ : ByteArray) = s := ⟨_, rfl⟩
    have HTX : Hid (∀ w', Door.Tabs w' → FR w' (.slice A q C) gs → Calls Tryz.prog 9 #[.agg #[.int .i64 vd, .int .i64 ed, .slice A q C]] w' fun e w'' => e = .returned (.string sx) ∧ Kept No w' w'') := Lib.hid (fun w' ht h => by rw [← hsx]; exact lawtext_is vd ed A q C gs w' ht h HSM.out hok)
    have HGT : Hid (∀ (w' : World) (v : Value), Rd w' 1 v (octR vd ed gs).length (bv (octR vd ed gs)) → Calls Tryz.prog 10 #[v] w' fun e w'' => Kept No w' w'' ∧ ∃ A C fs, fs.length = q ∧ e = .returned (.tuple #[.agg #[.int .i64 vd, .int .i64 ed, .slice A q C], .int .i64 ((octR vd ed gs).length : Nat), .int .i64 0]) ∧ fs.map keyF = gs.map keyF ∧ FR w'' (.slice A q C) fs) := Lib.hid (fun w' v h => by
      refine (get_octets vd ed gs hok H12.out H40.out v w' h).mono ?_
      rintro e w'' ⟨hk, A1, C1, fs1, hl, rfl, hm, hf⟩
      rw [hl, HQ.out] at hf
      refine ⟨hk, A1, C1, fs1, hl.trans HQ.out, ?_, hm, hf⟩
      rw [hl, HQ.out])
    have HPR : Hid (∀ w', Door.Tabs w' → Calls Tryz.prog 11 #[.string sx] w' fun e w'' => Kept No w' w'' ∧ ∃ A C fs, e = .returned (.tuple #[.agg #[.int .i64 vd, .int .i64 ed, .slice A q C], .int .i64 ((1 + 2 * q : Nat) : Int), .int .i64 0]) ∧ fs.map keyF = gs.map keyF ∧ FR w'' (.slice A q C) fs) := Lib.hid (fun w' ht => by
      rw [← hsx]
      refine (paperparse_of vd ed gs hok H12.out H40.out _ rfl w' ht).mono ?_
      rintro e w'' ⟨hk, A1, C1, fs1, rfl, hm, hf⟩
      have hl : fs1.length = q := by have := congrArg List.length hm; rw [List.length_map, List.length_map, HQ.out] at this; exact this
      have hn : (linesL (textR vd ed gs)).length = 1 + 2 * q := by rw [lines_text (okR_of hok), List.length_cons, linesR_len, HQ.out]; omega
      rw [hl] at hf
      exact ⟨hk, A1, C1, fs1, by rw [hl, hn], hm, hf⟩)
    generalize (octR vd ed gs).length = L at *
    clear hok hsx
    go_wp2_with fail
    refine HMY.out.mono ?_
    rintro e w4 ⟨rfl, k4⟩
    have HX4 := Lib.hid (HX3.out.kept k4 id)
    have HF4 := Lib.hid (HF3.out.kept k4)
    have HK4 := Lib.hid (HK3.out.trans k4 (fun _ _ f => f))
    clear c0 c1 c2 HX3 HF3 HK3 HMY k4
    go_upto_region 6 with fail
    obtain ⟨c0, c1, c2⟩ := KW.box3 HX4.out
    refine wp_region_dyn ([0, 2] ++ 1 :: 3 :: ([4, 5] ++ [])) (by kernel_rfl) (by kernel_rfl) ?_
    refine dyn_reads _ _ (by kernel_rfl) ?_
    simp only [sel, List.filterMap_cons, List.filterMap_nil, List.getElem?_cons_succ, List.getElem?_cons_zero]
    repeat (show wpQuiet _ _ _ _ (_ :: _) _; go_big_quiet_step (fail))
    refine wpQuiet_nil ?_
    refine dyn_fn 8 #[.agg #[.int .i64 vd, .int .i64 ed, .slice A q C]] rfl rfl rfl (by intro w; go_simp) ?_
    intro p
    refine (HOT.out p.w (HF4.out.kept p.h)).mono ?_
    rintro e w5 ⟨vo, rfl, hr5, k5⟩
    refine ⟨_, rfl, k5, ?_⟩
    have hk45 := p.h.trans k5 (fun _ _ f => f)
    have HX5 := Lib.hid (HX4.out.kept hk45 id)
    have HF5 := Lib.hid (HF4.out.kept hk45)
    have HK5 := Lib.hid (HK4.out.trans hk45 (fun _ _ f => f))
    have HR5 := Lib.hid hr5
    clear c0 c1 c2 HX4 HF4 HK4 k5 hk45 hr5
    simp only [Act.put, List.setIfInBounds_toArray, List.set]
    refine dyn_fn 9 #[.agg #[.int .i64 vd, .int .i64 ed, .slice A q C]] rfl rfl rfl (by intro w; go_simp) ?_
    intro p
    refine (HTX.out p.w (HT.out.kept (HK5.out.trans p.h (fun _ _ f => f))) (HF5.out.kept p.h)).mono ?_
    rintro e w6 ⟨rfl, k6⟩
    refine ⟨_, rfl, k6, ?_⟩
    have hk56 := p.h.trans k6 (fun _ _ f => f)
    have HX6 := Lib.hid (HX5.out.kept hk56 id)
    have HF6 := Lib.hid (HF5.out.kept hk56)
    have HK6 := Lib.hid (HK5.out.trans hk56 (fun _ _ f => f))
    have HR6 := Lib.hid (HR5.out.kept hk56 (fun _ _ f => f))
    clear HX5 HF5 HK5 k6 hk56 HR5
    simp only [Act.put, List.setIfInBounds_toArray, List.set]
    refine dyn_reads (rest := []) [4, 5] _ (by kernel_rfl) ?_
    simp only [sel, List.filterMap_cons, List.filterMap_nil, List.getElem?_cons_succ, List.getElem?_cons_zero]
    repeat (show wpQuiet _ _ _ _ (_ :: _) _; go_big_quiet_step (fail))
    refine wpQuiet_nil ?_
    refine dyn_nil fun p => ?_
    have HX7 := Lib.hid (HX6.out.kept p.h id)
    have HF7 := Lib.hid (HF6.out.kept p.h)
    have HK7 := Lib.hid (HK6.out.trans p.h (fun _ _ f => f))
    have HR7 := Lib.hid (HR6.out.kept p.h (fun _ _ f => f))
    clear HX6 HF6 HK6 HR6
    generalize p.w = w7 at *
    obtain ⟨-, ao7, cap7, rfl, -, hm7, -, -⟩ := id HR7.out
    unfold maxLen at hm7
    go_wp2_with fail
    refine (HGT.out w7 _ HR7.out).mono ?_
    rintro e w8 ⟨k8, A8, C8, fs8, hl8, rfl, hm8, hf8⟩
    have HX8 := Lib.hid (HX7.out.kept k8 id)
    have HF8 := Lib.hid (HF7.out.kept k8)
    have HK8 := Lib.hid (HK7.out.trans k8 (fun _ _ f => f))
    have HG8 := Lib.hid hf8
    have HM8 := Lib.hid hm8
    clear HX7 HF7 HK7 HR7 k8 hf8 hm8 hl8 HGT HOT HTX
    go_upto_region 8 with fail
    have HY := Lib.hid (Box.new w8 #[.int .i64 vd, .int .i64 ed, .slice A8 q C8] 24)
    have hal := (Kept.refl No w8).alloc (.cells #[.int .i64 vd, .int .i64 ed, .slice A8 q C8] 24)
    have HX9 := Lib.hid (HX8.out.kept hal id)
    have HF9 := Lib.hid (HF8.out.kept hal)
    have HK9 := Lib.hid (HK8.out.trans hal (fun _ _ f => f))
    have HG9 := Lib.hid (HG8.out.kept hal)
    generalize w8.alloc (.cells #[.int .i64 vd, .int .i64 ed, .slice A8 q C8] 24) = w9 at *
    generalize w8.heap.size = by8 at *
    clear HX8 HF8 HK8 HG8 hal
    go_wp2_with fail
    refine (HPR.out w9 (HT.out.kept HK9.out)).mono ?_
    rintro e w10 ⟨k10, A2, C2, fs2, rfl, hm2, hf2⟩
    have HX10 := Lib.hid (HX9.out.kept k10 id)
    have HY10 := Lib.hid (HY.out.kept k10 id)
    have HF10 := Lib.hid (HF9.out.kept k10)
    have HG10 := Lib.hid (HG9.out.kept k10)
    have HK10 := Lib.hid (HK9.out.trans k10 (fun _ _ f => f))
    have HH10 := Lib.hid hf2
    have HM2 := Lib.hid hm2
    clear HX9 HY HF9 HG9 HK9 k10 hf2 hm2 HPR
    go_upto_region 9 with fail
    have HZ := Lib.hid (Box.new w10 #[.int .i64 vd, .int .i64 ed, .slice A2 q C2] 24)
    have hal := (Kept.refl No w10).alloc (.cells #[.int .i64 vd, .int .i64 ed, .slice A2 q C2] 24)
    have HX11 := Lib.hid (HX10.out.kept hal id)
    have HY11 := Lib.hid (HY10.out.kept hal id)
    have HF11 := Lib.hid (HF10.out.kept hal)
    have HG11 := Lib.hid (HG10.out.kept hal)
    have HH11 := Lib.hid (HH10.out.kept hal)
    have HK11 := Lib.hid (HK10.out.trans hal (fun _ _ f => f))
    generalize w10.alloc (.cells #[.int .i64 vd, .int .i64 ed, .slice A2 q C2] 24) = w11 at *
    generalize w10.heap.size = bz at *
    clear HX10 HY10 HF10 HG10 HH10 HK10 hal
    obtain ⟨c0, c1, c2⟩ := cells3 HX11.out
    obtain ⟨y0, y1, y2⟩ := cells3 HY11.out
    go_wp2_with fail
    refine (report_same w11 vd ed _ _ fs8 gs HG11.out HF11.out HM8.out).mono ?_
    rintro e w12 ⟨rfl, k12⟩
    have HX12 := Lib.hid (HX11.out.kept k12 id)
    have HZ12 := Lib.hid (HZ.out.kept k12 id)
    have HF12 := Lib.hid (HF11.out.kept k12)
    have HH12 := Lib.hid (HH11.out.kept k12)
    have HK12 := Lib.hid (HK11.out.trans k12 (fun _ _ f => f))
    clear c0 c1 c2 y0 y1 y2 HX11 HY11 HF11 HG11 HH11 HK11 HZ k12
    obtain ⟨c0, c1, c2⟩ := cells3 HX12.out
    obtain ⟨y0, y1, y2⟩ := cells3 HZ12.out
    go_wp2_with fail
    refine (report_same w12 vd ed _ _ fs2 gs HH12.out HF12.out HM2.out).mono ?_
    rintro e w13 ⟨rfl, k13⟩
    have HX13 := Lib.hid (HX12.out.kept k13 id)
    have HK13 := Lib.hid (HK12.out.trans k13 (fun _ _ f => f))
    clear c0 c1 c2 y0 y1 y2 HX12 HZ12 HF12 HH12 HK12 k13
    obtain ⟨c0, c1, c2⟩ := cells3 HX13.out
    go_wp2_with fail
    go_ret
    exact ⟨rfl, HK13.out.below (Nat.le_refl _) (fun _ _ => id)⟩

theorem walk (w : World) (hT : Door.Tabs w) (vd ed : Int) (u : Value) (fs : List FoundI) (h : Rd w 4 u fs.length (foundV fs)) (hrow : ∀ f ∈ fs, Rd w 1 f.v f.n (vals f.zs)) :
    Calls Tryz.prog 3 #[.agg #[.int .i64 vd, .int .i64 ed, u]] w fun e w' => e = .returned (.bool true) ∧ Below w.heap.size w w' :=
  body w hT vd ed u fs h hrow

section
open Go.ChangeShapes Go.WideShapes Go.ChangeAt Go.ChangeMaps Go.RowKit Go.Proofs.YtaffaliplmfagaaGreatDoor.Own Go.Proofs.YtaffaliplmfagaaGreatDoor.Open Go.Proofs.YtaffaliplmfagaaGreatDoor.Door

theorem own : ownKnob Tryz.prog.godebug = none := by kernel_rfl
theorem laidOut : laidOutB Tryz.prog = true := by kernel_rfl

theorem door_met (os : Os) (args : Array Value) : laidMetH Tryz.prog Rows.paperBackRow.laid ((World.laidAll Tryz.prog os Rows.paperBackRow.laid).forCall (fun _ _ => 0) ⟨#[], args, []⟩).memory := by
  rw [MakeChecks.laidMetH_plain _ _ _ (by kernel_rfl)]
  exact laidMet_laidAll _ (by kernel_rfl) (by kernel_rfl)

set_option maxRecDepth 100000 in
theorem lifted (os : Os) (started : os.Started) (H : Type) (enc : TypeId × Value → H) :
    ReturnsInHanded {} Tryz.checked os 3 .any (fun w args => (Rows.paperBackSpec.pre enc Tryz.prog Tryz.f3 [] false w args ∧ laidMetH Tryz.prog Rows.paperBackRow.laid w) ∧ sizedMet enc Tryz.prog Tryz.f3 (OpenSpec.ofChange Rows.paperBackSpec) false w args) (Rows.paperBackSpec.post enc Tryz.prog Tryz.f3 false true false false) := by
  refine returnsInHanded_of_change_and (C := Tryz.checked) (X := fun w _ => laidMetH Tryz.prog Rows.paperBackRow.laid w) (fun _ _ _ hh h => h.of_heap hh) own started (by kernel_rfl) Tryz.func3
    (ChangeSpec.witness_shaped (enc := enc) (C := Tryz.checked) (os := os) (X := fun w _ => laidMetH Tryz.prog Rows.paperBackRow.laid w) false (World.laidAll Tryz.prog os Rows.paperBackRow.laid) #[.agg #[.int .i64 0, .int .i64 0, .slice none 0 0]] 8 (World.laidAll_os _ _ _) (World.shaped_of_ZipB (by kernel_rfl) (by kernel_rfl)) (by kernel_rfl) (by kernel_rfl) (by kernel_rfl) (door_met os _)) ?_
  intro W base args ds gs before hval0 hW _ _ hL _
  have hval : ∀ (j : Nat) t v, Tryz.f3.params[j]? = some t → args[j]? = some v → Value.okWide Tryz.prog W .any base t v := hval0
  have hW' := hW
  obtain ⟨p, q, hA0, hV, rfl, hfz, hnd⟩ := hW
  have hA : DataW.TrodAll enc Tryz.prog W 0 (fun _ => true) true Tryz.f3.params.toList args.toList ds p := hA0
  rw [Tryz.params3] at hA hval
  have hA1 := hA
  obtain ⟨v0, vs0, d0, ds0, p0, q0, hargs, rfl, rfl, h0, r0⟩ := trodAll_cons hA
  obtain ⟨rfl, rfl, rfl⟩ := trodAll_nil r0
  obtain rfl : args = #[v0] := by cases args; simp_all
  obtain ⟨rfl, rfl⟩ := trodVars_none hV
  obtain ⟨ra0, rb0, ru0, rfs0, rfl, rrd0, rrw0⟩ := open_report Tryz.underlying24 (by kernel_rfl) (by kernel_rfl) (by kernel_rfl) (by kernel_rfl) Tryz.underlying3 Tryz.underlying3 Tryz.underlying22 (by kernel_rfl) (by kernel_rfl) (by kernel_rfl) (by kernel_rfl) (by kernel_rfl) Tryz.underlying3 Tryz.underlying3 Tryz.underlying3 Tryz.underlying46 (by kernel_rfl) (by decide) (hval 0 24 v0 rfl rfl) h0
  clear hA0 hval0
  simp only [List.append_nil] at hW' hA1
  refine (walk W (tabs_of hL) ra0 rb0 ru0 rfs0 rrd0 rrw0).mono fun e W' ⟨he, hb⟩ => ?_
  subst he
  exact ⟨_, rfl, ⟨_, _, _, [], _, [], hW', trodAll_mk1 (shut_bool Tryz.underlying4 _), below_args laidOut hb (by kernel_rfl) hA1 (fun x hx => by simpa using hW'.lt x hx), rfl, hb.frame _, fun h => by cases h⟩⟩

theorem said : Rows.PaperBackSaid :=
  OpenClaim.holds_of_wide 3 Tryz.f3 rfl rfl rfl rfl rfl rfl rfl ⟨rfl, rfl, rfl, rfl, rfl⟩ rfl rfl rfl rfl rfl (by kernel_rfl) Tryz.func3 (by kernel_rfl)
    (of_decide_eq_true (by kernel_rfl)) (by unfold Func.isWrapper; first | (rw [if_pos (by decide +kernel)]; kernel_rfl) | (rw [if_neg (by decide +kernel)]; exact ⟨rfl, rfl⟩))
    (fun os started H enc _ => lifted os started H enc)

theorem proved : Rows.PaperBackCardSaid :=
  Claim7.holds_tied_plain_at .later [] [.data, .data, .data, .data, .sentinel, .sentinel, .pinned] true Rows.paperBackCard.stood.harness true
    said (fun _ h => by cases h) (by kernel_rfl) (fun _ h => by cases h) paperBack_row_tie rfl ⟨rfl, rfl⟩ (by kernel_rfl) rfl
    (fun f fn hf hfn => by
      obtain rfl : f = 3 := Option.some.inj ((show Tryz.prog.funcNamed "warrener/warrenerlaw40.PaperBack" = some 3 by kernel_rfl).symm.trans hf) |>.symm
      obtain rfl : fn = Tryz.f3 := (Option.some.inj (Tryz.func3.symm.trans hfn)).symm
      exact ⟨by kernel_rfl, fun j t ht => by
        have hm : t ∈ Tryz.f3.params := Array.mem_of_getElem? ht
        have hall : (Tryz.f3.params.all fun u => !Tryz.prog.wantsStandIn u) = true := by kernel_rfl
        have := Array.all_eq_true_iff_forall_mem.1 hall t hm
        exact (show Tryz.prog.wantsStandIn t = false by simpa using this)⟩)
    (by kernel_rfl)
end
end Go.Proofs.YtaffaliplmfagaaGreatDoor.paperBack
