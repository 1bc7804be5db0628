/-
  The statements' text.
-/
import Derived.Test.YtaffaliplmfagaaDoorPap4
import Derived.Test.YtaffaliplmfagaaDoorRefDec
import Derived.Test.YtaffaliplmfagaaDoorRefJoin
import Derived.BigQuiet
set_option linter.unusedVariables false
set_option linter.unusedSimpArgs false
namespace Go.Proofs.YtaffaliplmfagaaDoor.Line
open Go.RowKit Go.Sort Go.Proofs.YtaffaliplmfagaaDoor.Own Go.Proofs.YtaffaliplmfagaaDoor.Conv Go.Proofs.YtaffaliplmfagaaDoor.Calm

theorem cat_two {a b : List UInt8} {s t : ByteArray} (h1 : (⟨a.toArray⟩ : ByteArray) = s) (h2 : (⟨b.toArray⟩ : ByteArray) = t) : (⟨(a ++ b).toArray⟩ : ByteArray) = s ++ t := by rw [← h1, ← h2, app_mk]
def preT (vd ed : Int) (fs : List FoundI) (t : Nat) : List UInt8 := headR vd ed ++ [10] ++ foundsT (fs.take t)
theorem preT_succ (vd ed : Int) {fs : List FoundI} {t : Nat} {f : FoundI} (h : fs[t]? = some f) : preT vd ed fs (t + 1) = preT vd ed fs t ++ keyT f.k f.i f.j ++ [10] ++ picksT f.zs ++ [10] := by
  rw [preT, preT, List.take_add_one, h, Option.toList_some, foundsT_snoc, foundT]
  simp only [List.append_assoc]
theorem itoa_small {z : Int} (h : 0 ≤ z ∧ z ≤ 7) : -9223372036854775808 ≤ z ∧ z ≤ 9223372036854775807 := by omega

set_option maxRecDepth 100000 in
set_option maxHeartbeats 8000000 in
theorem lawtext_is (vd ed : Int) (ao : Option Addr) (n cap : Nat) (fs : List FoundI) (w : World) (hT : Door.Tabs w) (h : FR w (.slice ao n cap) fs) (hsm : SmR fs) (hok : okR vd ed fs = true) :
    Calls Tryd.prog 12 #[.agg #[.int .i64 vd, .int .i64 ed, .slice ao n cap]] w fun e w' => e = .returned (.string ⟨(textR vd ed fs).toArray⟩) ∧ Kept No w w' := by
  obtain ⟨i0, hi, hz0, hz1, hz2⟩ := info_parts info_string
  obtain ⟨hn, hcap, hm⟩ := h.len
  unfold maxLen at hm
  have ho := okR_of hok
  obtain ⟨v1, v4⟩ := ho.v
  obtain ⟨d0, d4⟩ := ho.e
  have hfl := foundsT_len ho hsm
  have hhl : (headR vd ed).length ≤ 40 := headR_len ⟨d0, d4⟩
  have hn100 := hsm.n
  have hpl : ∀ t, t ≤ n → (preT vd ed fs t).length ≤ 100000 := fun t ht => by
    have := hfl t
    rw [preT, List.length_append, List.length_append, List.length_singleton]
    omega
  have HPL := Lib.hid hpl
  have HO := Lib.hid ho
  have HSM := Lib.hid hsm
  have HN := Lib.hid hn
  have HT := Lib.hid hT
  obtain ⟨m, rfl⟩ : ∃ m : Nat, vd = (m : Int) + 1 := ⟨(vd - 1).toNat, by omega⟩
  have hm4 : m < 4 := by omega
  obtain ⟨sr, hsr⟩ : ∃ x : ByteArray, (⟨(Lib.itoa ed).toArray⟩ : ByteArray) = x := ⟨_, rfl⟩
  obtain ⟨sn, hsn⟩ : ∃ x : ByteArray, (⟨(vname m).toArray⟩ : ByteArray) = x := ⟨_, rfl⟩
  have hhd : Hid ((⟨(preT ((m : Int) + 1) ed fs 0).toArray⟩ : ByteArray) = sn ++ ⟨#[32]⟩ ++ sr ++ ⟨#[10]⟩) := Lib.hid (by
    have e : preT ((m : Int) + 1) ed fs 0 = vname m ++ [32] ++ Lib.itoa ed ++ [10] := by simp [preT, headR, foundsT, Lib.join]
    rw [e]
    exact cat_two (cat_two (cat_two hsn rfl) hsr) rfl)
  have zr : sr.size ≤ 21 := by rw [← hsr]; have := Lib.itoa_length_le ed (by omega) (by omega); simpa [ByteArray.size] using this
  have zn : sn.size ≤ 12 := by rw [← hsn]; have := vname_len m; simpa [ByteArray.size] using this
  have D1 : Hid (∀ w, Calls Tryd.prog 32 #[.int .i64 ed] w fun e w' => e = .returned (.string sr) ∧ Kept No w w') := Lib.hid (fun w => by rw [← hsr]; exact refdec_is ed (by omega) (by omega) w)
  have hat : vnameS[m]? = some (.string sn) := by rw [← hsn]; exact vnameS_at m hm4
  have HAT := Lib.hid hat
  have hx := Box.new w #[.int .i64 ((m : Int) + 1), .int .i64 ed, .slice ao n cap] 24
  have hk := (Kept.refl No w).alloc (.cells #[.int .i64 ((m : Int) + 1), .int .i64 ed, .slice ao n cap] 24)
  have HX := Lib.hid hx
  have HK := Lib.hid hk
  have H := Lib.hid (h.kept hk)
  clear ho hn h hok hk hx hfl hhl hpl hsr hsn hat hT
  go_enter Tryd.func12, Tryd.ntmps12
  go_upto_region 1 with fail
  generalize w.alloc (.cells #[.int .i64 ((m : Int) + 1), .int .i64 ed, .slice ao n cap] 24) = w0 at *
  go_upto_region 2 with fail
  have hb0 := Box.new w0 vnameS 9
  have hk1 := (Kept.refl No w0).alloc (.cells vnameS 9)
  have hx1 := HX.out.alloc (.cells vnameS 9)
  unfold vnameS at hb0 hk1 hx1
  generalize w0.alloc _ = w1 at *
  generalize w0.heap.size = bn at *
  have p0 : ∀ p : KW w1, p.w.cell? ⟨w.heap.size, 0, none⟩ = some (.int .i64 ((m : Int) + 1)) := KW.old (hx1.cell 0) hx1.lt
  have p1 : ∀ p : KW w1, p.w.cell? ⟨w.heap.size, 1, none⟩ = some (.int .i64 ed) := KW.old (hx1.cell 1) hx1.lt
  have q1 : ∀ p : KW w1, p.w.cell? ⟨bn, m, none⟩ = some (.string sn) := KW.old ((hb0.cell m).trans HAT.out) hb0.lt
  have D1' : Hid (∀ p : KW w1, Calls Tryd.prog 32 #[.int .i64 ed] p.w fun e w' => e = .returned (.string sr) ∧ Kept No p.w w') := Lib.hid (fun p => D1.out p.w)
  have HB0 := Lib.hid hb0
  have HK1 := Lib.hid hk1
  clear hb0 hk1 hx1 HAT D1
  refine wp_region_calm (by kernel_rfl) (by kernel_rfl) ?_
  repeat (go_big_quiet_step ((go_at_call 32; with_reducible exact calls_of _ (D1'.out _))))
  refine wpQuiet_nil ?_
  rintro _ ⟨p, rfl⟩
  have hk2 := HK1.out.trans p.h (fun _ _ f => f)
  generalize p.w = w2 at *
  clear p0 p1 q1 D1' HB0 HK1
  have hx2 := HX.out.kept hk2 id
  have c2 : w2.cell? ⟨w.heap.size, 2, none⟩ = some (.slice ao n cap) := hx2.cell 2
  clear hx2
  go_wp2_with fail
  go_loopw [4, 5] (fun s i wr => ∃ (t : Nat) (sx : ByteArray), t ≤ n ∧ i = .int .i64 t ∧ s = .string sx ∧ Hid ((⟨(preT ((m : Int) + 1) ed fs t).toArray⟩ : ByteArray) = sx) ∧ Kept No w0 wr) (fun _ i _ => n - (intOf i).toNat)
  case atStart => exact ⟨0, _, by omega, rfl, rfl, hhd, hk2⟩
  case round =>
    clear hhd c2 hk2
    obtain ⟨t, sx, ht, rfl, rfl, hsx, hK⟩ := hrel
    have c2 : wr.cell? ⟨w.heap.size, 2, none⟩ = some (.slice ao n cap) := (HX.out.kept hK id).cell 2
    have zx : sx.size ≤ 100000 := by rw [← hsx.out]; have := HPL.out t ht; simpa [ByteArray.size] using this
    by_cases hlt : t < n
    · obtain ⟨f, hf⟩ : ∃ f, fs[t]? = some f := ⟨_, List.getElem?_eq_getElem (by have := HN.out; omega)⟩
      have hpk := H.out.pk hf
      obtain ⟨g, o, rfl, hg0, e0, e1, e2, e3⟩ := H.out.at hf
      obtain ⟨p1, p2, p3, p4⟩ := HO.out.fine t f hf
      have hsu := preT_succ ((m : Int) + 1) ed hf
      have hp4 := HSM.out.p t f hf
      obtain ⟨fk, fi, fj, fv, fm, fzs⟩ := f
      have hzl : fzs.length = fm := by have := hpk.len; rw [vals_len] at this; simp only at this; omega
      obtain ⟨-, A, C, hfv, hmc, hmx, -, -⟩ := id hpk
      simp only at hfv e0 e1 e2 e3 hpk p1 p2 p3 p4 hmc hsu hp4
      subst hfv
      rw [hzl] at hp4
      unfold maxLen at hmx
      have b1 : fm ≤ 400 := hp4
      obtain ⟨sk, hsk⟩ : ∃ x : ByteArray, (⟨(keyT fk fi fj).toArray⟩ : ByteArray) = x := ⟨_, rfl⟩
      obtain ⟨sj, hsj⟩ : ∃ x : ByteArray, (⟨(picksT fzs).toArray⟩ : ByteArray) = x := ⟨_, rfl⟩
      have zk : sk.size ≤ 60 := by rw [← hsk]; have := keyT_bd p1; simpa [ByteArray.size] using this
      have zj : sj.size ≤ 800 := by rw [← hsj]; have := picksT_len p4; rw [hzl] at this; have h2 : (picksT fzs).length ≤ 800 := (by omega); simpa [ByteArray.size] using h2
      have hnx : Hid ((⟨(preT ((m : Int) + 1) ed fs (t + 1)).toArray⟩ : ByteArray) = sx ++ sk ++ ⟨#[10]⟩ ++ sj ++ ⟨#[10]⟩) := Lib.hid (by
        rw [hsu]
        exact cat_two (cat_two (cat_two (cat_two hsx.out hsk) rfl) hsj) rfl)
      have HKT : Hid (∀ w', Kept No w0 w' → Calls Tryd.prog 24 #[.agg #[.int .i64 fk, .int .i64 fi, .int .i64 fj]] w' fun e w'' => e = .returned (.string sk) ∧ Kept No w' w'') := Lib.hid (fun w' hk => by rw [← hsk]; exact text_is fk fi fj w' (HT.out.kept (HK.out.trans hk (fun _ _ f => f))))
      have HJN : Hid (∀ (w' : World) (v : Value), Rd w' 1 v fm (sv (fzs.map Lib.itoa)) → Calls Tryd.prog 33 #[v] w' fun e w'' => e = .returned (.string sj) ∧ Kept No w' w'') := Lib.hid (fun w' v hr => by
        rw [← hsj]
        exact refjoin_is w' v fm _ hr (by have := picksT_len p4; rw [picksT, hzl] at this; omega))
      have HP4 := Lib.hid p4
      have HPK := Lib.hid hpk
      have HZL := Lib.hid hzl
      have HE := Lib.hid (And.intro e0 (And.intro e1 (And.intro e2 e3)))
      have HG0 := Lib.hid hg0
      have HKR := Lib.hid hK
      clear hf hpk p1 p2 p3 p4 hsu hzl hsk hsj hp4 e0 e1 e2 e3 hg0 hK
      go_wp2_with fail
      clear c2
      generalize wr = wq at *
      go_loopw [6, 7] (fun l i wr => ∃ q : Nat, q ≤ fm ∧ i = .int .i64 q ∧ Seg wr wq.heap.size 9 1 l q (sv ((fzs.take q).map Lib.itoa)) ∧ Kept No wq wr) (fun _ i _ => fm - (intOf i).toNat)
      case atStart => exact ⟨0, by omega, rfl, by simpa [sv] using Seg.nil _ _ _ _, Kept.refl _ _⟩
      case round =>
        obtain ⟨q, hq, rfl, hs, hK⟩ := hrel
        have hK0 := HKR.out.trans hK (fun _ _ f => f)
        have c2 : wr.cell? ⟨w.heap.size, 2, none⟩ = some (.slice (some ⟨g, o, none⟩) n cap) := (HX.out.kept hK0 id).cell 2
        have e0 : wr.cell? ⟨g, o + t * 4, none⟩ = some (.int .i64 fk) := (hK0.cell (p := ⟨g, o + t * 4, none⟩) HG0.out id).trans HE.out.1
        have e1 : wr.cell? ⟨g, o + t * 4 + 1, none⟩ = some (.int .i64 fi) := (hK0.cell (p := ⟨g, o + t * 4 + 1, none⟩) HG0.out id).trans HE.out.2.1
        have e2 : wr.cell? ⟨g, o + t * 4 + 2, none⟩ = some (.int .i64 fj) := (hK0.cell (p := ⟨g, o + t * 4 + 2, none⟩) HG0.out id).trans HE.out.2.2.1
        have e3 : wr.cell? ⟨g, o + t * 4 + 3, none⟩ = some (.slice A fm C) := (hK0.cell (p := ⟨g, o + t * 4 + 3, none⟩) HG0.out id).trans HE.out.2.2.2
        by_cases hlq : q < fm
        · obtain ⟨z, hz⟩ : ∃ z, fzs[q]? = some z := ⟨_, List.getElem?_eq_getElem (by have := HZL.out; omega)⟩
          obtain ⟨z0, z7⟩ := HP4.out z (List.mem_of_getElem? hz)
          obtain ⟨-, ao', cap', hv, -, -, -, hcell⟩ := HPK.out.kept hK0 (fun _ _ f => f)
          rw [Value.slice.injEq] at hv
          obtain ⟨rfl, -, rfl⟩ := hv
          obtain ⟨g', o', rfl, hg', hcell⟩ := hcell (by omega)
          have cz : wr.cell? ⟨g', o' + q, none⟩ = some (.int .i64 z) := hcell q _ (by rw [vals, List.getElem?_map, hz]; rfl)
          obtain ⟨sz, hsz⟩ : ∃ x : ByteArray, (⟨(Lib.itoa z).toArray⟩ : ByteArray) = x := ⟨_, rfl⟩
          have htk : Hid (sv ((fzs.take (q + 1)).map Lib.itoa) = sv ((fzs.take q).map Lib.itoa) ++ [.string sz]) := Lib.hid (by rw [List.take_add_one, hz, ← hsz]; simp [sv])
          have HD : Hid (∀ w, Calls Tryd.prog 32 #[.int .i64 z] w fun e w' => e = .returned (.string sz) ∧ Kept No w w') := Lib.hid (fun w => by rw [← hsz]; exact refdec_is z (by omega) (by omega) w)
          have HS := Lib.hid hs
          have HKI := Lib.hid hK
          have hsz := hK.size
          clear hcell hz hs hK hK0
          go_wp2_with fail
          refine (HD.out _).mono ?_
          rintro e w6 ⟨rfl, k6⟩
          have hs1 := HS.out.kept k6 (fun _ _ f => f)
          have hK6 := HKI.out.trans k6 (fun _ _ f => f)
          have hsz6 := hK6.size
          clear c2 e0 e1 e2 e3 cz HD HS k6
          go_wp2_with (at_builtin; refine wpList_append_seg rfl _ _ 55 rfl wq.heap.size 9 i0 (.string ⟨#[]⟩) 1 16 Tryd.underlying55 hi hz0 hz1 hz2 rfl (by decide) _ _ _ rfl (hs1.kept ((Kept.refl No _).alloc _) (fun _ _ f => f.elim)) ⟨_, 0, none⟩ 1 1 [.string sz] rfl rfl (cell_one _ _ _) (fun u hu => by simp at hu; subst hu; rfl) (by unfold maxLen; omega) (by omega) (by simp only [World.size_alloc]; omega) ?_)
          intro v7 w7 hs7 hg7 hb7
          have hK7 : Kept No wq w7 := (hK6.alloc _).grown hg7 (fun g hlt hg => by have := (hs1.lt g hg).1; omega)
          have hs7 : Seg w7 wq.heap.size 9 1 v7 (q + 1) (sv ((fzs.take (q + 1)).map Lib.itoa)) := by rw [htk.out]; first | exact hs7 | (rw [List.map_take]; exact hs7)
          clear hg7 hb7 hs1 hK6 htk
          go_wp2_with fail
          go_roundw
          case rel => exact ⟨q + 1, by omega, by go_num, hs7, hK7⟩
          case measure => simp [intOf]; omega
        · obtain rfl : q = fm := by omega
          rw [List.take_of_length_le (by have := HZL.out; omega)] at hs
          have HS := Lib.hid hs
          have HK0 := Lib.hid hK0
          have HKT2 := Lib.hid (HKT.out wr hK0)
          clear hs hK0 hK
          go_wp2_with fail
          refine HKT2.out.mono ?_
          rintro e w6 ⟨rfl, k6⟩
          have hr6 := HS.out.rd.kept k6 (fun _ _ f => f)
          have HKF := Lib.hid (HK0.out.trans k6 (fun _ _ f => f))
          clear c2 e0 e1 e2 e3 k6
          go_wp2_with fail
          refine (HJN.out w6 _ hr6).mono ?_
          rintro e w8 ⟨rfl, k8⟩
          have hk8 := HKF.out.trans k8 (fun _ _ f => f)
          clear hr6 k8
          go_wp2_with fail
          go_roundw
          case rel => exact ⟨t + 1, _, by omega, by go_num, rfl, hnx, hk8⟩
          case measure => simp [intOf]; omega
    · obtain rfl : t = n := by omega
      go_wp2_with fail
      go_ret
      have hfin : preT ((m : Int) + 1) ed fs t = textR ((m : Int) + 1) ed fs := by rw [preT, textR, List.take_of_length_le (by rw [← HN.out]; omega)]
      rw [← hfin, hsx.out]
      exact ⟨rfl, HK.out.trans hK (fun _ _ f => f)⟩
end Go.Proofs.YtaffaliplmfagaaDoor.Line
