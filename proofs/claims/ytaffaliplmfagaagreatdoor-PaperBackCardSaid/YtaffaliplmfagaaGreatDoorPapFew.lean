/-
  The statements' text. The statements' Few.
-/
import Derived.Test.YtaffaliplmfagaaGreatDoorPap4
import Derived.Test.YtaffaliplmfagaaGreatDoorRefDec
import Derived.Test.YtaffaliplmfagaaGreatDoorRefJoin
import Derived.BigQuiet
import Derived.Test.YtaffaliplmfagaaGreatDoorPap8
set_option linter.unusedVariables false
set_option linter.unusedSimpArgs false
namespace Go.Proofs.YtaffaliplmfagaaGreatDoor.Line
open Go.RowKit Go.Sort Go.Proofs.YtaffaliplmfagaaGreatDoor.Own Go.Proofs.YtaffaliplmfagaaGreatDoor.Conv Go.Proofs.YtaffaliplmfagaaGreatDoor.Calm

theorem cat_two {a b : List UInt8} {s t : ByteArray} (h1 : (⟨a.toArray⟩ : ByteArray) = s) (h2 : (⟨b.toArray⟩ : ByteArray) = t) : (⟨(a ++ b).toArray⟩ : ByteArray) = s ++ t := by rw [← h1, ← h2, app_mk]
def preT (vd ed : Int) (fs : List FoundI) (t : Nat) : List UInt8 := headR vd ed ++ [10] ++ foundsT (fs.take t)
theorem preT_succ (vd ed : Int) {fs : List FoundI} {t : Nat} {f : FoundI} (h : fs[t]? = some f) : preT vd ed fs (t + 1) = preT vd ed fs t ++ keyT f.k f.i f.j ++ [10] ++ picksT f.zs ++ [10] := by
  rw [preT, preT, List.take_add_one, h, Option.toList_some, foundsT_snoc, foundT]
  simp only [List.append_assoc]
theorem itoa_small {z : Int} (h : 0 ≤ z ∧ z ≤ 7) : -9223372036854775808 ≤ z ∧ z ≤ 9223372036854775807 := by omega

set_option maxRecDepth 100000 in
set_option maxHeartbeats 8000000 in
theorem lawtext_is (vd ed : Int) (ao : Option Addr) (n cap : Nat) (fs : List FoundI) (w : World) (hT : Door.Tabs w) (h : FR w (.slice ao n cap) fs) (hsm : SmR fs) (hok : okR vd ed fs = true) :
    Calls Tryz.prog 9 #[.agg #[.int .i64 vd, .int .i64 ed, .slice ao n cap]] w fun e w' => e = .returned (.string ⟨(textR vd ed fs).toArray⟩) ∧ Kept No w w' := by
  obtain ⟨i0, hi, hz0, hz1, hz2⟩ := info_parts info_string
  obtain ⟨hn, hcap, hm⟩ := h.len
  unfold maxLen at hm
  have ho := okR_of hok
  obtain ⟨v1, v4⟩ := ho.v
  obtain ⟨d0, d4⟩ := ho.e
  have hfl := foundsT_len ho hsm
  have hhl : (headR vd ed).length ≤ 40 := headR_len ⟨d0, d4⟩
  have hn100 := hsm.n
  have hpl : ∀ t, t ≤ n → (preT vd ed fs t).length ≤ 100000 := fun t ht => by
    have := hfl t
    rw [preT, List.length_append, List.length_append, List.length_singleton]
    omega
  have HPL := Lib.hid hpl
  have HO := Lib.hid ho
  have HSM := Lib.hid hsm
  have HN := Lib.hid hn
  have HT := Lib.hid hT
  obtain ⟨m, rfl⟩ : ∃ m : Nat, vd = (m : Int) + 1 := ⟨(vd - 1).toNat, by omega⟩
  have hm4 : m < 4 := by omega
  obtain ⟨sr, hsr⟩ : ∃ x : ByteArray, (⟨(Lib.itoa ed).toArray⟩ : ByteArray) = x := ⟨_, rfl⟩
  obtain ⟨sn, hsn⟩ : ∃ x : ByteArray, (⟨(vname m).toArray⟩ : ByteArray) = x := ⟨_, rfl⟩
  have hhd : Hid ((⟨(preT ((m : Int) + 1) ed fs 0).toArray⟩ : ByteArray) = sn ++ ⟨#[32]⟩ ++ sr ++ ⟨#[10]⟩) := Lib.hid (by
    have e : preT ((m : Int) + 1) ed fs 0 = vname m ++ [32] ++ Lib.itoa ed ++ [10] := by simp [preT, headR, foundsT, Lib.join]
    rw [e]
    exact cat_two (cat_two (cat_two hsn rfl) hsr) rfl)
  have zr : sr.size ≤ 21 := by rw [← hsr]; have := Lib.itoa_length_le ed (by omega) (by omega); simpa [ByteArray.size] using this
  have zn : sn.size ≤ 12 := by rw [← hsn]; have := vname_len m; simpa [ByteArray.size] using this
  have D1 : Hid (∀ w, Calls Tryz.prog 20 #[.int .i64 ed] w fun e w' => e = .returned (.string sr) ∧ Kept No w w') := Lib.hid (fun w => by rw [← hsr]; exact refdec_is ed (by omega) (by omega) w)
  have hat : vnameS[m]? = some (.string sn) := by rw [← hsn]; exact vnameS_at m hm4
  have HAT := Lib.hid hat
  have hx := Box.new w #[.int .i64 ((m : Int) + 1), .int .i64 ed, .slice ao n cap] 24
  have hk := (Kept.refl No w).alloc (.cells #[.int .i64 ((m : Int) + 1), .int .i64 ed, .slice ao n cap] 24)
  have HX := Lib.hid hx
  have HK := Lib.hid hk
  have H := Lib.hid (h.kept hk)
  clear ho hn h hok hk hx hfl hhl hpl hsr hsn hat hT
  go_enter Tryz.func9, Tryz.ntmps9
  go_upto_region 1 with fail
  generalize w.alloc (.cells #[.int .i64 ((m : Int) + 1), .int .i64 ed, .slice ao n cap] 24) = w0 at *
  go_upto_region 2 with fail
  have hb0 := Box.new w0 vnameS 9
  have hk1 := (Kept.refl No w0).alloc (.cells vnameS 9)
  have hx1 := HX.out.alloc (.cells vnameS 9)
  unfold vnameS at hb0 hk1 hx1
  generalize w0.alloc _ = w1 at *
  generalize w0.heap.size = bn at *
  have p0 : ∀ p : KW w1, p.w.cell? ⟨w.heap.size, 0, none⟩ = some (.int .i64 ((m : Int) + 1)) := KW.old (hx1.cell 0) hx1.lt
  have p1 : ∀ p : KW w1, p.w.cell? ⟨w.heap.size, 1, none⟩ = some (.int .i64 ed) := KW.old (hx1.cell 1) hx1.lt
  have q1 : ∀ p : KW w1, p.w.cell? ⟨bn, m, none⟩ = some (.string sn) := KW.old ((hb0.cell m).trans HAT.out) hb0.lt
  have D1' : Hid (∀ p : KW w1, Calls Tryz.prog 20 #[.int .i64 ed] p.w fun e w' => e = .returned (.string sr) ∧ Kept No p.w w') := Lib.hid (fun p => D1.out p.w)
  have HB0 := Lib.hid hb0
  have HK1 := Lib.hid hk1
  clear hb0 hk1 hx1 HAT D1
  refine wp_region_calm (by kernel_rfl) (by kernel_rfl) ?_
  repeat (go_big_quiet_step ((go_at_call 20; with_reducible exact calls_of _ (D1'.out _))))
  refine wpQuiet_nil ?_
  rintro _ ⟨p, rfl⟩
  have hk2 := HK1.out.trans p.h (fun _ _ f => f)
  generalize p.w = w2 at *
  clear p0 p1 q1 D1' HB0 HK1
  have hx2 := HX.out.kept hk2 id
  have c2 : w2.cell? ⟨w.heap.size, 2, none⟩ = some (.slice ao n cap) := hx2.cell 2
  clear hx2
  go_wp2_with fail
  go_loopw [4, 5] (fun s i wr => ∃ (t : Nat) (sx : ByteArray), t ≤ n ∧ i = .int .i64 t ∧ s = .string sx ∧ Hid ((⟨(preT ((m : Int) + 1) ed fs t).toArray⟩ : ByteArray) = sx) ∧ Kept No w0 wr) (fun _ i _ => n - (intOf i).toNat)
  case atStart => exact ⟨0, _, by omega, rfl, rfl, hhd, hk2⟩
  case round =>
    clear hhd c2 hk2
    obtain ⟨t, sx, ht, rfl, rfl, hsx, hK⟩ := hrel
    have c2 : wr.cell? ⟨w.heap.size, 2, none⟩ = some (.slice ao n cap) := (HX.out.kept hK id).cell 2
    have zx : sx.size ≤ 100000 := by rw [← hsx.out]; have := HPL.out t ht; simpa [ByteArray.size] using this
    by_cases hlt : t < n
    · obtain ⟨f, hf⟩ : ∃ f, fs[t]? = some f := ⟨_, List.getElem?_eq_getElem (by have := HN.out; omega)⟩
      have hpk := H.out.pk hf
      obtain ⟨g, o, rfl, hg0, e0, e1, e2, e3⟩ := H.out.at hf
      obtain ⟨p1, p2, p3, p4⟩ := HO.out.fine t f hf
      have hsu := preT_succ ((m : Int) + 1) ed hf
      have hp4 := HSM.out.p t f hf
      obtain ⟨fk, fi, fj, fv, fm, fzs⟩ := f
      have hzl : fzs.length = fm := by have := hpk.len; rw [vals_len] at this; simp only at this; omega
      obtain ⟨-, A, C, hfv, hmc, hmx, -, -⟩ := id hpk
      simp only at hfv e0 e1 e2 e3 hpk p1 p2 p3 p4 hmc hsu hp4
      subst hfv
      rw [hzl] at hp4
      unfold maxLen at hmx
      have b1 : fm ≤ 400 := hp4
      obtain ⟨sk, hsk⟩ : ∃ x : ByteArray, (⟨(keyT fk fi fj).toArray⟩ : ByteArray) = x := ⟨_, rfl⟩
      obtain ⟨sj, hsj⟩ : ∃ x : ByteArray, (⟨(picksT fzs).toArray⟩ : ByteArray) = x := ⟨_, rfl⟩
      have zk : sk.size ≤ 60 := by rw [← hsk]; have := keyT_bd p1; simpa [ByteArray.size] using this
      have zj : sj.size ≤ 800 := by rw [← hsj]; have := picksT_len p4; rw [hzl] at this; have h2 : (picksT fzs).length ≤ 800 := (by omega); simpa [ByteArray.size] using h2
      have hnx : Hid ((⟨(preT ((m : Int) + 1) ed fs (t + 1)).toArray⟩ : ByteArray) = sx ++ sk ++ ⟨#[10]⟩ ++ sj ++ ⟨#[10]⟩) := Lib.hid (by
        rw [hsu]
        exact cat_two (cat_two (cat_two (cat_two hsx.out hsk) rfl) hsj) rfl)
      have HKT : Hid (∀ w', Kept No w0 w' → Calls Tryz.prog 21 #[.agg #[.int .i64 fk, .int .i64 fi, .int .i64 fj]] w' fun e w'' => e = .returned (.string sk) ∧ Kept No w' w'') := Lib.hid (fun w' hk => by rw [← hsk]; exact text_is fk fi fj w' (HT.out.kept (HK.out.trans hk (fun _ _ f => f))))
      have HJN : Hid (∀ (w' : World) (v : Value), Rd w' 1 v fm (sv (fzs.map Lib.itoa)) → Calls Tryz.prog 22 #[v] w' fun e w'' => e = .returned (.string sj) ∧ Kept No w' w'') := Lib.hid (fun w' v hr => by
        rw [← hsj]
        exact refjoin_is w' v fm _ hr (by have := picksT_len p4; rw [picksT, hzl] at this; omega))
      have HP4 := Lib.hid p4
      have HPK := Lib.hid hpk
      have HZL := Lib.hid hzl
      have HE := Lib.hid (And.intro e0 (And.intro e1 (And.intro e2 e3)))
      have HG0 := Lib.hid hg0
      have HKR := Lib.hid hK
      clear hf hpk p1 p2 p3 p4 hsu hzl hsk hsj hp4 e0 e1 e2 e3 hg0 hK
      go_wp2_with fail
      clear c2
      generalize wr = wq at *
      go_loopw [6, 7] (fun l i wr => ∃ q : Nat, q ≤ fm ∧ i = .int .i64 q ∧ Seg wr wq.heap.size 9 1 l q (sv ((fzs.take q).map Lib.itoa)) ∧ Kept No wq wr) (fun _ i _ => fm - (intOf i).toNat)
      case atStart => exact ⟨0, by omega, rfl, by simpa [sv] using Seg.nil _ _ _ _, Kept.refl _ _⟩
      case round =>
        obtain ⟨q, hq, rfl, hs, hK⟩ := hrel
        have hK0 := HKR.out.trans hK (fun _ _ f => f)
        have c2 : wr.cell? ⟨w.heap.size, 2, none⟩ = some (.slice (some ⟨g, o, none⟩) n cap) := (HX.out.kept hK0 id).cell 2
        have e0 : wr.cell? ⟨g, o + t * 4, none⟩ = some (.int .i64 fk) := (hK0.cell (p := ⟨g, o + t * 4, none⟩) HG0.out id).trans HE.out.1
        have e1 : wr.cell? ⟨g, o + t * 4 + 1, none⟩ = some (.int .i64 fi) := (hK0.cell (p := ⟨g, o + t * 4 + 1, none⟩) HG0.out id).trans HE.out.2.1
        have e2 : wr.cell? ⟨g, o + t * 4 + 2, none⟩ = some (.int .i64 fj) := (hK0.cell (p := ⟨g, o + t * 4 + 2, none⟩) HG0.out id).trans HE.out.2.2.1
        have e3 : wr.cell? ⟨g, o + t * 4 + 3, none⟩ = some (.slice A fm C) := (hK0.cell (p := ⟨g, o + t * 4 + 3, none⟩) HG0.out id).trans HE.out.2.2.2
        by_cases hlq : q < fm
        · obtain ⟨z, hz⟩ : ∃ z, fzs[q]? = some z := ⟨_, List.getElem?_eq_getElem (by have := HZL.out; omega)⟩
          obtain ⟨z0, z7⟩ := HP4.out z (List.mem_of_getElem? hz)
          obtain ⟨-, ao', cap', hv, -, -, -, hcell⟩ := HPK.out.kept hK0 (fun _ _ f => f)
          rw [Value.slice.injEq] at hv
          obtain ⟨rfl, -, rfl⟩ := hv
          obtain ⟨g', o', rfl, hg', hcell⟩ := hcell (by omega)
          have cz : wr.cell? ⟨g', o' + q, none⟩ = some (.int .i64 z) := hcell q _ (by rw [vals, List.getElem?_map, hz]; rfl)
          obtain ⟨sz, hsz⟩ : ∃ x : ByteArray, (⟨(Lib.itoa z).toArray⟩ : ByteArray) = x := ⟨_, rfl⟩
          have htk : Hid (sv ((fzs.take (q + 1)).map Lib.itoa) = sv ((fzs.take q).map Lib.itoa) ++ [.string sz]) := Lib.hid (by rw [List.take_add_one, hz, ← hsz]; simp [sv])
          have HD : Hid (∀ w, Calls Tryz.prog 20 #[.int .i64 z] w fun e w' => e = .returned (.string sz) ∧ Kept No w w') := Lib.hid (fun w => by rw [← hsz]; exact refdec_is z (by omega) (by omega) w)
          have HS := Lib.hid hs
          have HKI := Lib.hid hK
          have hsz := hK.size
          clear hcell hz hs hK hK0
          go_wp2_with fail
          refine (HD.out _).mono ?_
          rintro e w6 ⟨rfl, k6⟩
          have hs1 := HS.out.kept k6 (fun _ _ f => f)
          have hK6 := HKI.out.trans k6 (fun _ _ f => f)
          have hsz6 := hK6.size
          clear c2 e0 e1 e2 e3 cz HD HS k6
          go_wp2_with (at_builtin; refine wpList_append_seg rfl _ _ 36 rfl wq.heap.size 9 i0 (.string ⟨#[]⟩) 1 16 Tryz.underlying36 hi hz0 hz1 hz2 rfl (by decide) _ _ _ rfl (hs1.kept ((Kept.refl No _).alloc _) (fun _ _ f => f.elim)) ⟨_, 0, none⟩ 1 1 [.string sz] rfl rfl (cell_one _ _ _) (fun u hu => by simp at hu; subst hu; rfl) (by unfold maxLen; omega) (by omega) (by simp only [World.size_alloc]; omega) ?_)
          intro v7 w7 hs7 hg7 hb7
          have hK7 : Kept No wq w7 := (hK6.alloc _).grown hg7 (fun g hlt hg => by have := (hs1.lt g hg).1; omega)
          have hs7 : Seg w7 wq.heap.size 9 1 v7 (q + 1) (sv ((fzs.take (q + 1)).map Lib.itoa)) := by rw [htk.out]; first | exact hs7 | (rw [List.map_take]; exact hs7)
          clear hg7 hb7 hs1 hK6 htk
          go_wp2_with fail
          go_roundw
          case rel => exact ⟨q + 1, by omega, by go_num, hs7, hK7⟩
          case measure => simp [intOf]; omega
        · obtain rfl : q = fm := by omega
          rw [List.take_of_length_le (by have := HZL.out; omega)] at hs
          have HS := Lib.hid hs
          have HK0 := Lib.hid hK0
          have HKT2 := Lib.hid (HKT.out wr hK0)
          clear hs hK0 hK
          go_wp2_with fail
          refine HKT2.out.mono ?_
          rintro e w6 ⟨rfl, k6⟩
          have hr6 := HS.out.rd.kept k6 (fun _ _ f => f)
          have HKF := Lib.hid (HK0.out.trans k6 (fun _ _ f => f))
          clear c2 e0 e1 e2 e3 k6
          go_wp2_with fail
          refine (HJN.out w6 _ hr6).mono ?_
          rintro e w8 ⟨rfl, k8⟩
          have hk8 := HKF.out.trans k8 (fun _ _ f => f)
          clear hr6 k8
          go_wp2_with fail
          go_roundw
          case rel => exact ⟨t + 1, _, by omega, by go_num, rfl, hnx, hk8⟩
          case measure => simp [intOf]; omega
    · obtain rfl : t = n := by omega
      go_wp2_with fail
      go_ret
      have hfin : preT ((m : Int) + 1) ed fs t = textR ((m : Int) + 1) ed fs := by rw [preT, textR, List.take_of_length_le (by rw [← HN.out]; omega)]
      rw [← hfin, hsx.out]
      exact ⟨rfl, HK.out.trans hK (fun _ _ f => f)⟩
end Go.Proofs.YtaffaliplmfagaaGreatDoor.Line

set_option linter.unusedVariables false
set_option linter.unusedSimpArgs false
namespace Go.Proofs.YtaffaliplmfagaaGreatDoor.Line
open Go.RowKit Go.Sort Go.Proofs.YtaffaliplmfagaaGreatDoor.Own Go.Proofs.YtaffaliplmfagaaGreatDoor.Conv Go.Proofs.YtaffaliplmfagaaGreatDoor.Calm

theorem rd_cut {w : World} {ao : Option Addr} {n c : Nat} {zs : List Int} (h : Rd w 1 (.slice ao n c) n (vals zs)) (m : Nat) (hm : m ≤ n) (h0 : 0 < m) : Rd w 1 (.slice ao m c) m (vals (zs.take m)) := by
  obtain ⟨hl, a, c', he, hc, hx, hnn, hR⟩ := h
  cases he
  obtain ⟨g, o, rfl, hg, hcell⟩ := hR (by omega)
  rw [vals_len, Nat.mul_one] at hl
  refine ⟨by rw [vals_len, List.length_take]; omega, _, c, rfl, by omega, hx, (fun h => by cases h), fun _ => ⟨g, o, rfl, hg, fun j u hu => hcell j u ?_⟩⟩
  simp only [vals, List.map_take, List.getElem?_take] at hu
  split at hu
  · exact hu
  · cases hu

set_option maxRecDepth 100000 in
set_option maxHeartbeats 8000000 in
theorem few_is (vd ed : Int) (ao : Option Addr) (n cap : Nat) (fs : List FoundI) (w : World) (h : FR w (.slice ao n cap) fs) :
    Calls Tryz.prog 6 #[.agg #[.int .i64 vd, .int .i64 ed, .slice ao n cap]] w fun e w' => Kept No w w' ∧ ∃ ao' cap' gs, e = .returned (.agg #[.int .i64 vd, .int .i64 ed, .slice ao' gs.length cap']) ∧ Seg w' w.heap.size 48 4 (.slice ao' gs.length cap') gs.length (foundV gs) ∧ (∀ W, (∀ f ∈ fs, Rd W 1 f.v f.n (vals f.zs)) → ∀ f ∈ gs, Rd W 1 f.v f.n (vals f.zs)) ∧ gs.length ≤ 12 ∧ ∀ f ∈ gs, f.zs.length ≤ 40 := by
  obtain ⟨i0, hi, hz0, hz1, hz2⟩ := info_parts info_found
  have hz0' : i0.zero = some (.agg #[.int .i64 0, .int .i64 0, .int .i64 0, .slice none 0 0]) := hz0
  obtain ⟨hn, hcap, hm⟩ := h.len
  unfold maxLen at hm
  have HN := Lib.hid hn
  have HF := Lib.hid h
  have hx := (Box.new w #[.int .i64 vd, .int .i64 ed, .slice ao n cap] 24).alloc (.cells #[.int .i64 0, .int .i64 0, .slice none 0 0] 24)
  have hy := Box.new (w.alloc (.cells #[.int .i64 vd, .int .i64 ed, .slice ao n cap] 24)) #[.int .i64 0, .int .i64 0, .slice none 0 0] 24
  have hk := ((Kept.refl No w).alloc (.cells #[.int .i64 vd, .int .i64 ed, .slice ao n cap] 24)).alloc (.cells #[.int .i64 0, .int .i64 0, .slice none 0 0] 24)
  simp only [World.size_alloc] at hy
  have HX := Lib.hid hx
  have HY := Lib.hid hy
  have HK := Lib.hid hk
  clear hn h hx hy hk
  go_enter Tryz.func6, Tryz.ntmps6
  go_upto_region 1 with fail
  have hlt0 : w.heap.size + 1 < ((w.alloc (.cells #[.int .i64 vd, .int .i64 ed, .slice ao n cap] 24)).alloc (.cells #[.int .i64 0, .int .i64 0, .slice none 0 0] 24)).heap.size := HY.out.lt
  generalize (w.alloc (.cells #[.int .i64 vd, .int .i64 ed, .slice ao n cap] 24)).alloc (.cells #[.int .i64 0, .int .i64 0, .slice none 0 0] 24) = w0 at *
  have x2 : w0.cell? ⟨w.heap.size, 2, none⟩ = some (.slice ao n cap) := HX.out.cell 2
  go_wp2_with fail
  go_loopw [3, 4] (fun l i wr => ∃ (t : Nat) (gs : List FoundI), t ≤ n ∧ t ≤ 12 ∧ i = .int .i64 t ∧ Hid (gs.length = t) ∧ Seg wr w0.heap.size 48 4 l t (foundV gs) ∧ Hid (∀ f ∈ gs, (∀ W, (∀ f ∈ fs, Rd W 1 f.v f.n (vals f.zs)) → Rd W 1 f.v f.n (vals f.zs)) ∧ f.zs.length ≤ 40) ∧ Kept No w0 wr) (fun _ i _ => 12 - (intOf i).toNat)
  case atStart => exact ⟨0, [], by omega, by omega, rfl, Lib.hid rfl, Seg.nil _ _ _ _, Lib.hid (fun f hf => by simp at hf), Kept.refl _ _⟩
  case round =>
    clear x2
    obtain ⟨t, gs, ht, ht12, rfl, hgl, hs, hgs, hK⟩ := hrel
    have hxr := HX.out.kept hK id
    have x2 : wr.cell? ⟨w.heap.size, 2, none⟩ = some (.slice ao n cap) := hxr.cell 2
    by_cases hlt : t < n ∧ t < 12
    · obtain ⟨hlt, hlt2⟩ := hlt
      have i2 : decide ((t : Int) < 12) = true := by rw [decide_eq_true_eq]; omega
      obtain ⟨f, hf⟩ : ∃ f, fs[t]? = some f := ⟨_, List.getElem?_eq_getElem (by have := HN.out; omega)⟩
      have hpk := HF.out.pk hf
      have hpg : ∀ W, (∀ f ∈ fs, Rd W 1 f.v f.n (vals f.zs)) → Rd W 1 f.v f.n (vals f.zs) := fun W hW => hW f (List.mem_of_getElem? hf)
      obtain ⟨g, o, rfl, hg, e0, e1, e2, e3⟩ := (HF.out.kept (HK.out.trans hK (fun _ _ f => f))).at hf
      obtain ⟨fk, fi, fj, fv, fm, fzs⟩ := f
      have hzl : fzs.length = fm := by have := hpk.len; rw [vals_len] at this; simp only at this; omega
      obtain ⟨-, A, C, hfv, hmc, hmx, -, hRc⟩ := id hpk
      simp only at hfv e0 e1 e2 e3 hpk hmc hRc hpg
      subst hfv
      unfold maxLen at hmx
      have HRC := Lib.hid hRc
      have HPK := Lib.hid hpg
      have HZL := Lib.hid hzl
      have hcp := Box.new wr #[.int .i64 fk, .int .i64 fi, .int .i64 fj, .slice A fm C] 48
      have hkc := (Kept.refl No wr).alloc (.cells #[.int .i64 fk, .int .i64 fi, .int .i64 fj, .slice A fm C] 48)
      clear hf hpk hzl hRc hpg
      go_upto_region 6 with fail
      clear e0 e1 e2 e3 x2
      generalize wr.alloc (.cells #[.int .i64 fk, .int .i64 fi, .int .i64 fj, .slice A fm C] 48) = wa at *
      have y3 : wa.cell? ⟨wr.heap.size, 3, none⟩ = some (.slice A fm C) := hcp.cell 3
      have f3 : wa.frozen? ⟨wr.heap.size, 3, none⟩ = false := hcp.frozen 3
      have hszr := hK.size
      by_cases h40 : 40 < fm
      case' pos =>
        obtain ⟨g', o', rfl, -, -⟩ := HRC.out (by omega)
        have c40 : (40 : Int) ≤ (C : Int) := by omega
        go_upto_region 8 with fail
        have hcz : Box (wa.setCell ⟨wr.heap.size, 3, none⟩ (.slice (some ⟨g', o', none⟩) 40 C)) wr.heap.size #[.int .i64 fk, .int .i64 fi, .int .i64 fj, .slice (some ⟨g', o', none⟩) 40 C] 48 := bset hcp 3 _
        have hkz : Kept No wr (wa.setCell ⟨wr.heap.size, 3, none⟩ (.slice (some ⟨g', o', none⟩) 40 C)) := hkc.trans ((Kept.refl _ wa).setCell (p := ⟨wr.heap.size, 3, none⟩) (S := Only wr.heap.size) (fun _ => rfl) _) (fun q hq e => by have : q = wr.heap.size := e; omega)
        have HNW : Hid ((∀ W, (∀ f ∈ fs, Rd W 1 f.v f.n (vals f.zs)) → Rd W 1 (.slice (some ⟨g', o', none⟩) 40 C) 40 (vals (fzs.take 40))) ∧ (fzs.take 40).length ≤ 40) := Lib.hid ⟨fun W hW => rd_cut (HPK.out W hW) 40 (by omega) (by omega), by rw [List.length_take]; omega⟩
        clear y3 f3
        generalize wa.setCell ⟨wr.heap.size, 3, none⟩ (.slice (some ⟨g', o', none⟩) 40 C) = wz at *
        obtain ⟨zz, hzz⟩ : ∃ z, fzs.take 40 = z := ⟨_, rfl⟩
        obtain ⟨A', hA'⟩ : ∃ a, (some ⟨g', o', none⟩ : Option Addr) = a := ⟨_, rfl⟩
        obtain ⟨M, hM⟩ : ∃ m, 40 = m := ⟨_, rfl⟩
        rw [hzz, hA'] at HNW
        rw [hA'] at hcz
        have hcz : Box wz wr.heap.size #[.int .i64 fk, .int .i64 fi, .int .i64 fj, .slice A' M C] 48 := by rw [← hM]; exact hcz
        have HNW : Hid ((∀ W, (∀ f ∈ fs, Rd W 1 f.v f.n (vals f.zs)) → Rd W 1 (.slice A' M C) M (vals zz)) ∧ zz.length ≤ 40) := by rw [← hM]; exact HNW
        clear hzz hA' hM
      case' neg =>
        go_upto_region 8 with fail
        have hcz := hcp
        have hkz := hkc
        have HNW : Hid ((∀ W, (∀ f ∈ fs, Rd W 1 f.v f.n (vals f.zs)) → Rd W 1 (.slice A fm C) fm (vals fzs)) ∧ fzs.length ≤ 40) := Lib.hid ⟨HPK.out, by rw [HZL.out]; omega⟩
        clear y3 f3
        obtain ⟨zz, hzz⟩ : ∃ z, fzs = z := ⟨_, rfl⟩
        obtain ⟨A', hA'⟩ : ∃ a, A = a := ⟨_, rfl⟩
        obtain ⟨M, hM⟩ : ∃ m, fm = m := ⟨_, rfl⟩
        obtain ⟨wz, hwz⟩ : ∃ q, wa = q := ⟨_, rfl⟩
        rw [hzz, hA', hM] at HNW
        rw [hA', hM, hwz] at hcz
        rw [hwz] at hkz
        rw [hwz]
        clear hzz hA' hM hwz
      all_goals
        have y0 : wz.cell? ⟨wr.heap.size, 0, none⟩ = some (.int .i64 fk) := hcz.cell 0
        have y1 : wz.cell? ⟨wr.heap.size, 1, none⟩ = some (.int .i64 fi) := hcz.cell 1
        have y2 : wz.cell? ⟨wr.heap.size, 2, none⟩ = some (.int .i64 fj) := hcz.cell 2
        have y3 : wz.cell? ⟨wr.heap.size, 3, none⟩ = some (.slice A' M C) := hcz.cell 3
        have hszz := hkz.size
        have hsz := hs.kept hkz (fun _ _ f => f.elim)
        have hKz := hK.trans hkz (fun _ _ f => f)
        have HSEG := Lib.hid (hsz.kept ((Kept.refl No wz).alloc (.cells #[.int .i64 fk, .int .i64 fi, .int .i64 fj, .slice A' M C] 48)) (fun _ _ => id))
        have hcn := cells_new wz #[.int .i64 fk, .int .i64 fi, .int .i64 fj, .slice A' M C] 48
        have HCN := Lib.hid hcn
        have H16 : Hid (w0.heap.size ≤ (wz.alloc (.cells #[.int .i64 fk, .int .i64 fi, .int .i64 fj, .slice A' M C] 48)).heap.size) := Lib.hid (by rw [World.size_alloc]; omega)
        have HKZ := Lib.hid hKz
        have HSZ := Lib.hid hsz
        clear hs hK hkz hkc hcp hcz hcn hKz hsz hszz hxr HPK HRC HZL
        go_wp2_with (at_builtin; refine wpList_append_seg rfl _ _ 22 rfl w0.heap.size 48 i0 _ 4 48 Tryz.underlying22 hi hz0' hz1 hz2 rfl (by decide) _ _ _ rfl HSEG.out ⟨_, 0, none⟩ 1 1 [.int .i64 fk, .int .i64 fi, .int .i64 fj, .slice A' M C] rfl rfl HCN.out (by intro u hu; simp only [List.mem_cons, List.not_mem_nil, or_false] at hu; rcases hu with rfl | rfl | rfl | rfl <;> rfl) (by unfold maxLen; omega) (by omega) H16.out ?_)
        intro v7 w7 hs7 hg7 hb7
        have hK7 : Kept No w0 w7 := (HKZ.out.alloc _).grown hg7 (fun g hlt hg => by have := (HSZ.out.lt g hg).1; omega)
        have hs8 : Seg w7 w0.heap.size 48 4 v7 (t + 1) (foundV (gs ++ [⟨fk, fi, fj, .slice A' M C, M, zz⟩])) := by rw [foundV_app]; exact hs7
        clear hs7 hg7 hb7 HSEG HCN H16 HKZ HSZ
        have hgn : Hid (∀ f ∈ gs ++ [⟨fk, fi, fj, .slice A' M C, M, zz⟩], (∀ W, (∀ f ∈ fs, Rd W 1 f.v f.n (vals f.zs)) → Rd W 1 f.v f.n (vals f.zs)) ∧ f.zs.length ≤ 40) := Lib.hid (fun f hf => by
          rcases List.mem_append.1 hf with h | h
          · exact hgs.out f h
          · rw [List.mem_singleton] at h
            subst h
            exact HNW.out)
        have hgl2 : Hid ((gs ++ [(⟨fk, fi, fj, .slice A' M C, M, zz⟩ : FoundI)]).length = t + 1) := Lib.hid (by rw [List.length_append, hgl.out]; rfl)
        go_wp2_with fail
        go_roundw
        case rel => exact ⟨t + 1, _, by omega, by omega, by go_num, hgl2, hs8, hgn, hK7⟩
        case measure => simp [intOf]; omega
    · have HKR := Lib.hid hK
      have hfr : ∀ w', Kept (fun q => q = w.heap.size ∨ q = w.heap.size + 1) wr w' → Seg w' w.heap.size 48 4 u3 t (foundV gs) := fun w' hk => (hs.kept hk (fun q hq e => by have := (hs.lt q hq).1; omega)).mono (by omega)
      have HFR := Lib.hid hfr
      have hcx : wr.cell? ⟨w.heap.size, 2, none⟩ = some (.slice ao n cap) := x2
      have hxf : wr.frozen? ⟨w.heap.size, 2, none⟩ = false := hxr.frozen 2
      obtain ⟨-, A, C, rfl, -, -, -, -⟩ := hs.rd
      have hb2 : Box (wr.setCell ⟨w.heap.size, 2, none⟩ (.slice A t C)) w.heap.size #[.int .i64 vd, .int .i64 ed, .slice A t C] 24 := bset hxr 2 _
      have hk2 : Kept (Only w.heap.size) wr (wr.setCell ⟨w.heap.size, 2, none⟩ (.slice A t C)) := (Kept.refl _ wr).setCell (p := ⟨w.heap.size, 2, none⟩) (fun _ => by exact rfl) _
      have hy2 : Box (wr.setCell ⟨w.heap.size, 2, none⟩ (.slice A t C)) (w.heap.size + 1) #[.int .i64 0, .int .i64 0, .slice none 0 0] 24 := (HY.out.kept hK id).kept hk2 (fun e => by have : w.heap.size + 1 = w.heap.size := e; omega)
      have hrow : Kept (Only (w.heap.size + 1)) (wr.setCell ⟨w.heap.size, 2, none⟩ (.slice A t C)) ((wr.setCell ⟨w.heap.size, 2, none⟩ (.slice A t C)).setRow (w.heap.size + 1) #[.int .i64 vd, .int .i64 ed, .slice A t C]) := row_only _ _ _
      have hall : Kept (fun q => q = w.heap.size ∨ q = w.heap.size + 1) wr ((wr.setCell ⟨w.heap.size, 2, none⟩ (.slice A t C)).setRow (w.heap.size + 1) #[.int .i64 vd, .int .i64 ed, .slice A t C]) := (hk2.mono (fun q _ h => .inl h)).trans hrow (fun q _ h => .inr h)
      have hw : Kept No w ((wr.setCell ⟨w.heap.size, 2, none⟩ (.slice A t C)).setRow (w.heap.size + 1) #[.int .i64 vd, .int .i64 ed, .slice A t C]) := (HK.out.trans hK (fun _ _ f => f)).trans hall (fun q hq e => by omega)
      have HW := Lib.hid hw
      have HFE := Lib.hid (HFR.out _ hall)
      have HB2 := Lib.hid hb2
      have HY2 := Lib.hid hy2
      clear hrow hall hw hfr HFR hb2 hk2 hy2 hs hK HKR
      by_cases hlt1 : t < n
      case' pos => have i2 : decide ((t : Int) < 12) = false := by rw [decide_eq_false_iff_not]; omega
      case' neg => have i2 : decide ((t : Int) < n) = false := by rw [decide_eq_false_iff_not]; omega
      all_goals
        go_upto_region 10 with fail
        clear x2 hcx hxf
        generalize wr.setCell ⟨w.heap.size, 2, none⟩ (.slice A t C) = wc at *
        have b0 : wc.cell? ⟨w.heap.size, 0, none⟩ = some (.int .i64 vd) := HB2.out.cell 0
        have b1 : wc.cell? ⟨w.heap.size, 1, none⟩ = some (.int .i64 ed) := HB2.out.cell 1
        have b2 : wc.cell? ⟨w.heap.size, 2, none⟩ = some (.slice A t C) := HB2.out.cell 2
        go_wp2_with (refine wpList_store_rowTo rfl 24 _ _ rfl rfl (w.heap.size + 1) #[.int .i64 vd, .int .i64 ed, .slice A t C] (by kernel_rfl) (by kernel_rfl) 24 _ HY2.out (by kernel_rfl) (by kernel_rfl) (by kernel_rfl) ?_)
        refine bodyPost_ret (results_cell_row rfl _ _ (w.heap.size + 1) 24 #[.int .i64 vd, .int .i64 ed, .slice A t C] (0, 0) _ (by kernel_rfl) HY2.out.row Tryz.underlying24 rfl (by kernel_rfl)) rfl ?_
        exact ⟨HW.out, A, C, gs, by rw [hgl.out], by have := HFE.out; rw [hgl.out]; exact this, fun W hW f hf => (hgs.out f hf).1 W hW, by rw [hgl.out]; omega, fun f hf => (hgs.out f hf).2⟩
end Go.Proofs.YtaffaliplmfagaaGreatDoor.Line
