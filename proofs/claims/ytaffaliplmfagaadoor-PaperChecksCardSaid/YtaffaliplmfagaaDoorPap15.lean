/-
  The statements' octets.
-/
import Derived.Test.YtaffaliplmfagaaDoorRefPut
import Derived.Test.YtaffaliplmfagaaDoorPap3
set_option linter.unusedVariables false
set_option linter.unusedSimpArgs false
namespace Go.Proofs.YtaffaliplmfagaaDoor.Line
open Go.RowKit Go.Sort Go.Proofs.YtaffaliplmfagaaDoor.Own Go.Proofs.YtaffaliplmfagaaDoor.Conv Go.Proofs.YtaffaliplmfagaaDoor.Calm Go.Proofs.YtaffaliplmfagaaDoor.Oct

theorem beB_1 (z : Int) (h0 : 0 ≤ z) (h1 : z < 256) : beB z.toNat 1 = [z] := by
  simp [beB]
  omega
theorem pre3_eq {k i j : Int} (h : isKey k i j = true) : pre3 k i j 3 = [k, i, j] := by
  obtain ⟨h1, h2, h3⟩ := key_parts h
  simp only [pre3, List.take_succ_cons, List.take_zero, List.flatMap_cons, List.flatMap_nil, List.append_nil]
  rw [beB_1 k (by omega) (by omega), beB_1 i (by omega) (by omega), beB_1 j (by omega) (by omega)]
  rfl
theorem oct_ints (zs : List Int) : ∀ u ∈ bv zs, u.oneCell' = true := by
  intro u hu
  simp only [bv, List.mem_map] at hu
  obtain ⟨z, _, rfl⟩ := hu
  rfl
def preR (vd ed : Int) (fs : List FoundI) (t : Nat) : List Int := octH vd ed fs.length ++ octsF (fs.take t)
theorem preR_le (vd ed : Int) (fs : List FoundI) (t : Nat) : (preR vd ed fs t).length ≤ (octR vd ed fs).length := by
  have := octsF_take_le fs t
  rw [preR, octR, List.length_append, List.length_append]
  omega
theorem preR_succ (vd ed : Int) {fs : List FoundI} {t : Nat} {f : FoundI} (h : fs[t]? = some f) : preR vd ed fs (t + 1) = preR vd ed fs t ++ octF f := by
  rw [preR, preR, List.take_add_one, h, Option.toList_some, octsF_snoc, List.append_assoc]

set_option maxRecDepth 100000 in
set_option maxHeartbeats 8000000 in
theorem lawoctets_is (vd ed : Int) (ao : Option Addr) (n cap : Nat) (fs : List FoundI) (w : World) (h : FR w (.slice ao n cap) fs) (hok : okR vd ed fs = true) (htot : (octR vd ed fs).length ≤ 100000) :
    Calls Tryd.prog 11 #[.agg #[.int .i64 vd, .int .i64 ed, .slice ao n cap]] w fun e w' => ∃ v, e = .returned v ∧ Rd w' 1 v (octR vd ed fs).length (bv (octR vd ed fs)) ∧ Kept No w w' := by
  obtain ⟨i0, hi, hz0, hz1, hz2⟩ := info_parts info_byte
  obtain ⟨hn, hcap, hm⟩ := h.len
  unfold maxLen at hm
  have ho := okR_of hok
  obtain ⟨v1, v4⟩ := ho.v
  obtain ⟨d0, d4⟩ := ho.e
  have n255 := ho.n
  rw [← hn] at n255
  have hH : octH vd ed fs.length = [82, vd] ++ beB ed.toNat 6 ++ [(n : Int)] := by
    rw [octH, ← hn, beB_1 vd (by omega) (by omega), show beB n 1 = [(n : Int)] from by have := beB_1 (n : Int) (by omega) (by omega); simpa using this]
    rfl
  have HH := Lib.hid hH
  have HO := Lib.hid ho
  have HN := Lib.hid hn
  have HT := Lib.hid htot
  have hx := Box.new w #[.int .i64 vd, .int .i64 ed, .slice ao n cap] 24
  have hk := (Kept.refl No w).alloc (.cells #[.int .i64 vd, .int .i64 ed, .slice ao n cap] 24)
  have HX := Lib.hid hx
  have HK := Lib.hid hk
  have H := Lib.hid (h.kept hk)
  clear hH ho hn htot h hok hk hx
  go_enter Tryd.func11, Tryd.ntmps11
  go_upto_region 1 with fail
  have hBl : w.heap.size < (w.alloc (.cells #[.int .i64 vd, .int .i64 ed, .slice ao n cap] 24)).heap.size := HX.out.lt
  generalize w.alloc (.cells #[.int .i64 vd, .int .i64 ed, .slice ao n cap] 24) = w0 at *
  have c0 : w0.cell? ⟨w.heap.size, 0, none⟩ = some (.int .i64 vd) := HX.out.cell 0
  go_upto_region 2 with fail
  have hb0 := Box.new w0 #[.int .u8 82, .int .u8 vd] 5
  have hk1 := HK.out.alloc (.cells #[.int .u8 82, .int .u8 vd] 5)
  have hx1 := HX.out.alloc (.cells #[.int .u8 82, .int .u8 vd] 5)
  have hk01 := (Kept.refl No w0).alloc (.cells #[.int .u8 82, .int .u8 vd] 5)
  have hsz := hk01.size
  generalize w0.alloc (.cells #[.int .u8 82, .int .u8 vd] 5) = w1 at *
  have c1 : w1.cell? ⟨w.heap.size, 1, none⟩ = some (.int .i64 ed) := hx1.cell 1
  have hr := box_rd hb0 rfl 2 rfl (by simp [maxLen])
  go_wp2_with fail
  refine (ref02put_is w1 _ 2 [82, vd] hr (by omega) ed 6 (by omega) (by omega) (by omega)).mono ?_
  rintro e w2 ⟨v1, rfl, hs2, k2⟩
  have hs3 := hs2.mono (B' := w0.heap.size) hsz
  have HX2 := Lib.hid (hx1.kept k2 id)
  have HK2 := Lib.hid (hk1.trans k2 (fun _ _ f => f))
  have HK02 := Lib.hid (hk01.trans k2 (fun _ _ f => f))
  have hz2' := (hk01.trans k2 (fun _ _ f => f)).size
  have c2 : w2.cell? ⟨w.heap.size, 2, none⟩ = some (.slice ao n cap) := HX2.out.cell 2
  clear c0 c1 hb0 hk1 hx1 hk01 hr hs2 k2 hsz
  go_wp2_with (at_builtin; refine wpList_append_seg rfl _ _ 27 rfl w0.heap.size 5 i0 (.int .u8 0) 1 1 Tryd.underlying27 hi hz0 hz1 hz2 rfl (by decide) _ _ _ rfl (hs3.kept ((Kept.refl No _).alloc _) (fun _ _ f => f.elim)) ⟨_, 0, none⟩ 1 1 [.int .u8 (n : Int)] rfl rfl ?c1 ?c2 ?c3 ?c4 ?c5 ?_)
  case c1 => exact cell_one _ _ _
  case c2 => exact one_int _ _
  case c3 => unfold maxLen; omega
  case c4 => omega
  case c5 => simp only [World.size_alloc]; omega
  intro v3 w3 hs4 hg4 hb4
  have hK4 : Kept No w0 w3 := (HK02.out.alloc _).grown hg4 (fun g hlt hg => by have := (hs3.lt g hg).1; omega)
  have hq0 : Seg w3 w0.heap.size 5 1 v3 (preR vd ed fs 0).length (bv (preR vd ed fs 0)) := by
    have e : preR vd ed fs 0 = [82, vd] ++ beB ed.toNat 6 ++ [(n : Int)] := by rw [preR, HH.out]; simp [octsF]
    rw [e, bv_app]
    have el : ([82, vd] ++ beB ed.toNat 6 ++ [(n : Int)]).length = 9 := by simp [beB_len]
    rw [el]
    exact hs4
  clear hs3 hs4 hg4 hb4 c2 HX2 HK2 HK02 hz2' HH
  go_wp2_with fail
  go_loopw [3, 4] (fun b i wr => ∃ t : Nat, t ≤ n ∧ i = .int .i64 t ∧ Seg wr w0.heap.size 5 1 b (preR vd ed fs t).length (bv (preR vd ed fs t)) ∧ Kept No w0 wr) (fun _ i _ => n - (intOf i).toNat)
  case atStart => exact ⟨0, by omega, rfl, hq0, hK4⟩
  case round =>
    clear hq0 hK4
    obtain ⟨t, ht, rfl, hs, hK⟩ := hrel
    have hxr := HX.out.kept hK id
    have c2 : wr.cell? ⟨w.heap.size, 2, none⟩ = some (.slice ao n cap) := hxr.cell 2
    by_cases hlt : t < n
    · obtain ⟨f, hf⟩ : ∃ f, fs[t]? = some f := ⟨_, List.getElem?_eq_getElem (by have := HN.out; omega)⟩
      have hpk := H.out.pk hf
      obtain ⟨g, o, rfl, hg, e0, e1, e2, e3⟩ := (H.out.kept hK).at hf
      obtain ⟨p1, p2, p3, p4⟩ := HO.out.fine t f hf
      have hsu := preR_succ vd ed hf
      have hle1 := preR_le vd ed fs (t + 1)
      obtain ⟨fk, fi, fj, fv, fm, fzs⟩ := f
      have hfl : fzs.length = fm := by have := hpk.len; rw [vals_len] at this; simp only at this; omega
      obtain ⟨-, A, C, hfv, hmc, hmx, -, -⟩ := id hpk
      simp only at hfv e0 e1 e2 e3 hpk p1 p2 p3 p4 hmc
      subst hfv
      have hof : octF ⟨fk, fi, fj, .slice A fm C, fm, fzs⟩ = [fk, fi, fj] ++ (beB fm 2 ++ fzs) := by rw [octF, pre3_eq p1, hfl]
      rw [hof] at hsu
      rw [hsu] at hle1
      rw [List.length_append, List.length_append, List.length_append, beB_len] at hle1
      have hle := HT.out
      obtain ⟨⟨k1, k6⟩, ⟨i0', i3⟩, ⟨j0, j15⟩⟩ := key_parts p1
      unfold maxLen at hmx
      rw [hfl] at p2 p3
      have b1 : fm ≤ 4096 := p3
      have b2 : (preR vd ed fs t).length ≤ 100000 := by omega
      have HSU := Lib.hid hsu
      have HPK := Lib.hid hpk
      have HP4 := Lib.hid p4
      have HFL := Lib.hid hfl
      have hcp := Box.new wr #[.int .i64 fk, .int .i64 fi, .int .i64 fj, .slice A fm C] 48
      have hkc := (Kept.refl No wr).alloc (.cells #[.int .i64 fk, .int .i64 fi, .int .i64 fj, .slice A fm C] 48)
      clear hf hpk p1 p4 hof hsu hle1 hle hfl p2 p3
      go_upto_region 8 with fail
      clear e0 e1 e2 e3 c2
      have hszr := hK.size
      have hu3 := hs.lt
      have hs1 := hs.kept hkc (fun _ _ f => f.elim)
      have hK1 := hK.trans hkc (fun _ _ f => f)
      have HXC := Lib.hid (hxr.kept hkc id)
      have hbw : wr.heap.size < (wr.alloc (.cells #[.int .i64 fk, .int .i64 fi, .int .i64 fj, .slice A fm C] 48)).heap.size := hcp.lt
      have HKC := Lib.hid hkc
      generalize wr.alloc (.cells #[.int .i64 fk, .int .i64 fi, .int .i64 fj, .slice A fm C] 48) = wa at *
      have y0 : wa.cell? ⟨wr.heap.size, 0, none⟩ = some (.int .i64 fk) := hcp.cell 0
      have y1 : wa.cell? ⟨wr.heap.size, 1, none⟩ = some (.int .i64 fi) := hcp.cell 1
      have y2 : wa.cell? ⟨wr.heap.size, 2, none⟩ = some (.int .i64 fj) := hcp.cell 2
      have hsza := hK1.size
      clear hs hK hkc hxr
      go_wp2_with (at_builtin; refine wpList_append_seg rfl _ _ 27 rfl w0.heap.size 5 i0 (.int .u8 0) 1 1 Tryd.underlying27 hi hz0 hz1 hz2 rfl (by decide) _ _ _ rfl (hs1.kept ((Kept.refl No _).alloc _) (fun _ _ f => f.elim)) ⟨_, 0, none⟩ 3 3 (bv [fk, fi, fj]) rfl rfl ?c1 ?c2 ?c3 ?c4 ?c5 ?_)
      case c1 => exact cells_new _ _ _
      case c2 => exact oct_ints _
      case c3 => unfold maxLen; omega
      case c4 => omega
      case c5 => simp only [World.size_alloc]; omega
      intro v5 w5 hs5 hg5 hb5
      have hK5 : Kept No w0 w5 := (hK1.alloc _).grown hg5 (fun g hlt hg => by have := (hs1.lt g hg).1; omega)
      have hk5 : Kept (fun q => (Value.ownBlock _) = some q) wa w5 := (((Kept.refl No wa).alloc _).mono (fun _ _ f => f.elim)).grown hg5 (fun g hlt hg => hg)
      have hcp5 := hcp.kept hk5 (fun e => by have := hu3 _ e; omega)
      have y3 : w5.cell? ⟨wr.heap.size, 3, none⟩ = some (.slice A fm C) := hcp5.cell 3
      have hxl : (preR vd ed fs t).length + 3 = (preR vd ed fs t ++ [fk, fi, fj]).length := by simp
      rw [← bv_app, hxl] at hs5
      have HCP := Lib.hid hcp5
      have HPK5 := Lib.hid (HPK.out.kept hK5 (fun _ _ f => f))
      have hs5r := hs5.rd
      have hput := ref02put_is w5 _ _ _ hs5r (by omega) (fm : Int) 2 (by omega) (by omega) (by omega)
      have HPT := Lib.hid hput
      have hsz5 := hK5.size
      clear hcp hcp5 hk5 hg5 hb5 hs1 hK1 y0 y1 y2 hu3 HKC HXC hs5 hs5r hput hsza HPK
      go_wp2_with fail
      refine HPT.out.mono ?_
      rintro e w6 ⟨v6, rfl, hs6, k6'⟩
      have y3 : w6.cell? ⟨wr.heap.size, 3, none⟩ = some (.slice A fm C) := (HCP.out.kept k6' id).cell 3
      obtain ⟨xs, hxs⟩ : ∃ x, preR vd ed fs t ++ [fk, fi, fj] ++ beB fm 2 = x := ⟨_, rfl⟩
      have hxs2 : preR vd ed fs t ++ [fk, fi, fj] ++ beB ((fm : Int)).toNat 2 = xs := hxs
      rw [hxs2] at hs6
      have hxl2 : (preR vd ed fs t ++ [fk, fi, fj]).length + 2 = xs.length := by rw [← hxs]; simp only [List.length_append, beB_len]
      rw [hxl2] at hs6
      have HSX : Hid (preR vd ed fs (t + 1) = xs ++ fzs) := Lib.hid (by rw [HSU.out, ← hxs]; simp only [List.append_assoc])
      have b6 : xs.length ≤ 200000 := by rw [← hxl2, ← hxl]; omega
      have HS6 := Lib.hid hs6
      have HK6 := Lib.hid k6'
      have HK5 := Lib.hid hK5
      obtain ⟨W, hW⟩ : ∃ W, wr.heap.size = W := ⟨_, rfl⟩
      obtain ⟨W5, hW5⟩ : ∃ W, w5.heap.size = W := ⟨_, rfl⟩
      rw [hW] at HCP y3
      rw [hW5] at HS6
      rw [hW]
      clear hs6 k6' hK5 HPT hxs hxs2 hxl hxl2 HSU hW b2
      go_wp2_with fail
      generalize wr = wq at *
      go_loopw [3, 6] (fun b i wr => ∃ q : Nat, q ≤ fm ∧ i = .int .i64 q ∧ Seg wr W5 5 1 b (xs.length + q) (bv (xs ++ fzs.take q)) ∧ Kept No w5 wr) (fun _ i _ => fm - (intOf i).toNat)
      case atStart => exact ⟨0, by omega, rfl, by simpa using HS6.out, HK6.out⟩
      case round =>
        clear y3
        obtain ⟨q, hq, rfl, hs, hK⟩ := hrel
        have y3 : wr.cell? ⟨W, 3, none⟩ = some (.slice A fm C) := (HCP.out.kept hK id).cell 3
        by_cases hlq : q < fm
        · obtain ⟨z, hz⟩ : ∃ z, fzs[q]? = some z := ⟨_, List.getElem?_eq_getElem (by have := HFL.out; omega)⟩
          obtain ⟨z0, z7⟩ := HP4.out z (List.mem_of_getElem? hz)
          obtain ⟨-, ao', cap', hv, -, -, -, hcell⟩ := HPK5.out.kept hK (fun _ _ f => f)
          rw [Value.slice.injEq] at hv
          obtain ⟨rfl, -, rfl⟩ := hv
          obtain ⟨g', o', rfl, hg', hcell⟩ := hcell (by omega)
          have cz : wr.cell? ⟨g', o' + q, none⟩ = some (.int .i64 z) := hcell q _ (by rw [vals, List.getElem?_map, hz]; rfl)
          have htk : Hid (fzs.take (q + 1) = fzs.take q ++ [z]) := Lib.hid (by rw [List.take_add_one, hz]; rfl)
          have hsz := hK.size
          clear hcell hz
          go_wp2_with (at_builtin; refine wpList_append_seg rfl _ _ 27 rfl W5 5 i0 (.int .u8 0) 1 1 Tryd.underlying27 hi hz0 hz1 hz2 rfl (by decide) _ _ _ rfl (hs.kept ((Kept.refl No _).alloc _) (fun _ _ f => f.elim)) ⟨_, 0, none⟩ 1 1 [.int .u8 z] rfl rfl ?c1 ?c2 ?c3 ?c4 ?c5 ?_)
          case c1 => exact cell_one _ _ _
          case c2 => exact one_int _ _
          case c3 => unfold maxLen; omega
          case c4 => omega
          case c5 => simp only [World.size_alloc]; omega
          intro v7 w7 hs7 hg7 hb7
          have hK7 : Kept No w5 w7 := (hK.alloc _).grown hg7 (fun g hlt hg => by have := (hs.lt g hg).1; omega)
          clear hg7 hb7 hs hK y3 cz
          go_wp2_with fail
          go_roundw
          case rel =>
            refine ⟨q + 1, by omega, by go_num, ?_, hK7⟩
            rw [htk.out, ← List.append_assoc, bv_app]
            exact hs7
          case measure => simp [intOf]; omega
        · obtain rfl : q = fm := by omega
          have hfull : xs ++ fzs.take q = preR vd ed fs (t + 1) := by rw [HSX.out, List.take_of_length_le (by have := HFL.out; omega)]
          have hlen : xs.length + q = (preR vd ed fs (t + 1)).length := by rw [HSX.out, List.length_append, HFL.out]
          rw [hfull, hlen] at hs
          have hsm := hs.mono (B' := w0.heap.size) (by omega)
          have hKf := HK5.out.trans hK (fun _ _ f => f)
          clear hfull hlen hs
          go_wp2_with fail
          go_roundw
          case rel => exact ⟨t + 1, by omega, by go_num, hsm, hKf⟩
          case measure => simp [intOf]; omega
    · obtain rfl : t = n := by omega
      go_wp2_with fail
      go_ret
      have hfin : preR vd ed fs t = octR vd ed fs := by rw [preR, octR, List.take_of_length_le (by rw [← HN.out]; omega)]
      rw [hfin] at hs
      exact ⟨_, rfl, hs.rd, HK.out.trans hK (fun _ _ f => f)⟩
end Go.Proofs.YtaffaliplmfagaaDoor.Line
