/-
  warrenerref02.Put. The statements' octets. What is got, put, is the octets: in plain lists. What is put, got, is the same: in plain lists.
-/
import Derived.Test.YtaffaliplmfagaaGreatDoorPap3
import Derived.Test.YtaffaliplmfagaaGreatDoorPap7
set_option linter.unusedVariables false
namespace Go.Proofs.YtaffaliplmfagaaGreatDoor.Line
open Go.RowKit Go.Sort Go.Proofs.YtaffaliplmfagaaGreatDoor.Own Go.Proofs.YtaffaliplmfagaaGreatDoor.Conv Go.Proofs.YtaffaliplmfagaaGreatDoor.Calm Go.Proofs.YtaffaliplmfagaaGreatDoor.Oct

theorem digit_is (y i : Nat) (hy : y < 9223372036854775808) (hi : i < 8) (w : World) :
    Calls Tryz.prog 41 #[.int .i64 y, .int .i64 i] w fun e w' => e = .returned (.int .u8 (y / 256 ^ i % 256 : Nat)) ∧ w' = w := by
  have E0 : IntKind.u64.wrap (y : Int) = (y : Int) := by rw [IntKind.wrap_u64]; omega
  have E1 : IntKind.i64.wrap (8 * (i : Int)) = ((8 * i : Nat) : Int) := by rw [IntKind.wrap_i64]; omega
  go_enter Tryz.func41, Tryz.ntmps41
  go_wp2_with fail
  have hp : ((y : Int) / 2 ^ (8 * i)) = ((y / 256 ^ i : Nat) : Int) := by
    rw [show (256 : Nat) ^ i = 2 ^ (8 * i) by rw [Nat.pow_mul]]
    simp
  have hle : y / 256 ^ i ≤ y := Nat.div_le_self _ _
  have hb := bits_and_u64_nat (y / 256 ^ i) 255 (by omega) (by omega)
  rw [show (255 : Nat) = 2 ^ 8 - 1 by decide, Nat.and_two_pow_sub_one_eq_mod] at hb
  have hb2 : bits .and .u64 ((y : Int) / 2 ^ (8 * i)) 255 % 256 = ((y / 256 ^ i % 256 : Nat) : Int) := by
    rw [hp]
    have : ((2 ^ 8 - 1 : Nat) : Int) = 255 := by decide
    rw [this] at hb
    rw [hb]
    omega
  rw [hb2]
  go_ret
  exact ⟨rfl, rfl⟩

theorem beB_take (y n k : Nat) (hk : k < n) : (beB y n).take (k + 1) = (beB y n).take k ++ [((y / 256 ^ (n - 1 - k) % 256 : Nat) : Int)] := by
  have hl : k < (beB y n).length := by rw [beB_len]; exact hk
  rw [List.take_add_one, List.getElem?_eq_getElem hl]
  simp [beB]

set_option maxRecDepth 100000 in
set_option maxHeartbeats 4000000 in
theorem ref02put_is (w : World) (v0 : Value) (m : Nat) (xs : List Int) (hr : Rd w 1 v0 m (bv xs)) (hm : m ≤ 1000000) (x : Int) (n : Nat) (hn : 1 ≤ n) (hn8 : n ≤ 8) (hx : 0 ≤ x ∧ x < 9223372036854775808) :
    Calls Tryz.prog 19 #[v0, .int .i64 x, .int .i64 n] w fun e w' => ∃ v, e = .returned v ∧ Seg w' w.heap.size 5 1 v (m + n) (bv (xs ++ beB x.toNat n)) ∧ Kept No w w' := by
  obtain ⟨i0, hi, hz0, hz1, hz2⟩ := info_parts info_byte
  obtain ⟨y, rfl⟩ : ∃ y : Nat, x = y := ⟨x.toNat, by omega⟩
  have E1 : IntKind.i64.wrap ((n : Int) - 1) = ((n - 1 : Nat) : Int) := by rw [IntKind.wrap_i64]; omega
  have HR := Lib.hid hr
  clear hr
  go_enter Tryz.func19, Tryz.ntmps19
  go_wp2_with (at_builtin; refine wpList_append_rd rfl _ _ 28 rfl w.heap.size 5 i0 (.int .u8 0) 1 1 Tryz.underlying28 hi hz0 hz1 hz2 rfl (by decide) (.slice none 0 0) 0 [] rfl (Seg.nil _ _ _ _) v0 m (bv xs) rfl HR.out ?c2 ?c3 ?c4 (Nat.le_refl _) ?_)
  case c2 =>
    intro u hu
    simp only [bv, List.mem_map] at hu
    obtain ⟨z, _, rfl⟩ := hu
    rfl
  case c3 => unfold maxLen; omega
  case c4 => omega
  intro v1 w1 hs1 hg1 hb1
  have hk1 : Kept No w w1 := (Kept.refl No w).grown hg1 (fun k hk e => by cases e)
  clear hg1 hb1 HR
  go_wp2_with fail
  go_loopw [7, 8] (fun o i wr => ∃ k : Nat, k ≤ n ∧ i = .int .i64 ((n : Int) - 1 - (k : Int)) ∧ Seg wr w.heap.size 5 1 o (m + k) (bv (xs ++ (beB y n).take k)) ∧ Kept No w wr) (fun o i _ => (intOf i + 1).toNat)
  case atStart => exact ⟨0, by omega, by congr 1; omega, by simpa using hs1, hk1⟩
  case round =>
    obtain ⟨k, hk, rfl, hs, hK⟩ := hrel
    by_cases hlt : k < n
    · have e1 : (n : Int) - 1 - (k : Int) = ((n - 1 - k : Nat) : Int) := by omega
      have e2 : IntKind.i64.wrap (((n - 1 - k : Nat) : Int) - 1) = (n : Int) - 1 - ((k + 1 : Nat) : Int) := by rw [IntKind.wrap_i64]; omega
      have htk := beB_take y n k hlt
      have HTK := Lib.hid htk
      obtain ⟨p, hp⟩ : ∃ p, n - 1 - k = p := ⟨_, rfl⟩
      rw [hp] at e1 e2 htk
      have hp8 : p < 8 := by omega
      have hpy : (0 : Int) ≤ (p : Int) := by omega
      rw [e1]
      have HD := Lib.hid (digit_is y p (by omega) hp8)
      have E2 := Lib.hid e2
      have HTK2 := Lib.hid htk
      have HPK := Lib.hid hp
      clear HTK htk e1 hp
      go_wp2_with fail
      refine (HD.out _).mono ?_
      rintro e w2 ⟨rfl, rfl⟩
      have hz := hK.size
      go_wp2_with (at_builtin; refine wpList_append_seg rfl _ _ 28 rfl w.heap.size 5 i0 (.int .u8 0) 1 1 Tryz.underlying28 hi hz0 hz1 hz2 rfl (by decide) _ _ _ rfl (hs.kept ((Kept.refl No _).alloc _) (fun _ _ f => f.elim)) ⟨_, 0, none⟩ 1 1 [.int .u8 (y / 256 ^ p % 256 : Nat)] rfl rfl ?c1 ?c2 ?c3 ?c4 ?c5 ?_)
      case c1 => exact cell_one _ _ _
      case c2 => exact one_int _ _
      case c3 => unfold maxLen; omega
      case c4 => omega
      case c5 => simp; omega
      intro v4 w4 hs4 hg4 hb4
      have hK4 : Kept No w w4 := (hK.alloc _).grown hg4 (fun g hlt hg => by have := (hs.lt g hg).1; omega)
      clear hg4 hb4 hs hK
      go_wp2_with fail
      go_roundw
      case rel =>
        refine ⟨k + 1, by omega, by congr 1, ?_, hK4⟩
        rw [HTK2.out, ← List.append_assoc, bv_app]
        exact hs4
      case measure =>
        have := HPK.out
        simp [intOf]
        omega
    · obtain rfl : k = n := by omega
      rw [List.take_of_length_le (by rw [beB_len]; omega)] at hs
      have e1 : (k : Int) - 1 - (k : Int) = -1 := by omega
      rw [e1]
      go_wp2_with fail
      go_ret
      exact ⟨_, rfl, hs, hK⟩

end Go.Proofs.YtaffaliplmfagaaGreatDoor.Line

set_option linter.unusedVariables false
set_option linter.unusedSimpArgs false
namespace Go.Proofs.YtaffaliplmfagaaGreatDoor.Line
open Go.RowKit Go.Sort Go.Proofs.YtaffaliplmfagaaGreatDoor.Own Go.Proofs.YtaffaliplmfagaaGreatDoor.Conv Go.Proofs.YtaffaliplmfagaaGreatDoor.Calm Go.Proofs.YtaffaliplmfagaaGreatDoor.Oct

theorem beB_1 (z : Int) (h0 : 0 ≤ z) (h1 : z < 256) : beB z.toNat 1 = [z] := by
  simp [beB]
  omega
theorem pre3_eq {k i j : Int} (h : isKey k i j = true) : pre3 k i j 3 = [k, i, j] := by
  obtain ⟨h1, h2, h3⟩ := key_parts h
  simp only [pre3, List.take_succ_cons, List.take_zero, List.flatMap_cons, List.flatMap_nil, List.append_nil]
  rw [beB_1 k (by omega) (by omega), beB_1 i (by omega) (by omega), beB_1 j (by omega) (by omega)]
  rfl
theorem oct_ints (zs : List Int) : ∀ u ∈ bv zs, u.oneCell' = true := by
  intro u hu
  simp only [bv, List.mem_map] at hu
  obtain ⟨z, _, rfl⟩ := hu
  rfl
def preR (vd ed : Int) (fs : List FoundI) (t : Nat) : List Int := octH vd ed fs.length ++ octsF (fs.take t)
theorem preR_le (vd ed : Int) (fs : List FoundI) (t : Nat) : (preR vd ed fs t).length ≤ (octR vd ed fs).length := by
  have := octsF_take_le fs t
  rw [preR, octR, List.length_append, List.length_append]
  omega
theorem preR_succ (vd ed : Int) {fs : List FoundI} {t : Nat} {f : FoundI} (h : fs[t]? = some f) : preR vd ed fs (t + 1) = preR vd ed fs t ++ octF f := by
  rw [preR, preR, List.take_add_one, h, Option.toList_some, octsF_snoc, List.append_assoc]

set_option maxRecDepth 100000 in
set_option maxHeartbeats 8000000 in
theorem lawoctets_is (vd ed : Int) (ao : Option Addr) (n cap : Nat) (fs : List FoundI) (w : World) (h : FR w (.slice ao n cap) fs) (hok : okR vd ed fs = true) (htot : (octR vd ed fs).length ≤ 100000) :
    Calls Tryz.prog 8 #[.agg #[.int .i64 vd, .int .i64 ed, .slice ao n cap]] w fun e w' => ∃ v, e = .returned v ∧ Rd w' 1 v (octR vd ed fs).length (bv (octR vd ed fs)) ∧ Kept No w w' := by
  obtain ⟨i0, hi, hz0, hz1, hz2⟩ := info_parts info_byte
  obtain ⟨hn, hcap, hm⟩ := h.len
  unfold maxLen at hm
  have ho := okR_of hok
  obtain ⟨v1, v4⟩ := ho.v
  obtain ⟨d0, d4⟩ := ho.e
  have n255 := ho.n
  rw [← hn] at n255
  have hH : octH vd ed fs.length = [82, vd] ++ beB ed.toNat 6 ++ [(n : Int)] := by
    rw [octH, ← hn, beB_1 vd (by omega) (by omega), show beB n 1 = [(n : Int)] from by have := beB_1 (n : Int) (by omega) (by omega); simpa using this]
    rfl
  have HH := Lib.hid hH
  have HO := Lib.hid ho
  have HN := Lib.hid hn
  have HT := Lib.hid htot
  have hx := Box.new w #[.int .i64 vd, .int .i64 ed, .slice ao n cap] 24
  have hk := (Kept.refl No w).alloc (.cells #[.int .i64 vd, .int .i64 ed, .slice ao n cap] 24)
  have HX := Lib.hid hx
  have HK := Lib.hid hk
  have H := Lib.hid (h.kept hk)
  clear hH ho hn htot h hok hk hx
  go_enter Tryz.func8, Tryz.ntmps8
  go_upto_region 1 with fail
  have hBl : w.heap.size < (w.alloc (.cells #[.int .i64 vd, .int .i64 ed, .slice ao n cap] 24)).heap.size := HX.out.lt
  generalize w.alloc (.cells #[.int .i64 vd, .int .i64 ed, .slice ao n cap] 24) = w0 at *
  have c0 : w0.cell? ⟨w.heap.size, 0, none⟩ = some (.int .i64 vd) := HX.out.cell 0
  go_upto_region 2 with fail
  have hb0 := Box.new w0 #[.int .u8 82, .int .u8 vd] 5
  have hk1 := HK.out.alloc (.cells #[.int .u8 82, .int .u8 vd] 5)
  have hx1 := HX.out.alloc (.cells #[.int .u8 82, .int .u8 vd] 5)
  have hk01 := (Kept.refl No w0).alloc (.cells #[.int .u8 82, .int .u8 vd] 5)
  have hsz := hk01.size
  generalize w0.alloc (.cells #[.int .u8 82, .int .u8 vd] 5) = w1 at *
  have c1 : w1.cell? ⟨w.heap.size, 1, none⟩ = some (.int .i64 ed) := hx1.cell 1
  have hr := box_rd hb0 rfl 2 rfl (by simp [maxLen])
  go_wp2_with fail
  refine (ref02put_is w1 _ 2 [82, vd] hr (by omega) ed 6 (by omega) (by omega) (by omega)).mono ?_
  rintro e w2 ⟨v1, rfl, hs2, k2⟩
  have hs3 := hs2.mono (B' := w0.heap.size) hsz
  have HX2 := Lib.hid (hx1.kept k2 id)
  have HK2 := Lib.hid (hk1.trans k2 (fun _ _ f => f))
  have HK02 := Lib.hid (hk01.trans k2 (fun _ _ f => f))
  have hz2' := (hk01.trans k2 (fun _ _ f => f)).size
  have c2 : w2.cell? ⟨w.heap.size, 2, none⟩ = some (.slice ao n cap) := HX2.out.cell 2
  clear c0 c1 hb0 hk1 hx1 hk01 hr hs2 k2 hsz
  go_wp2_with (at_builtin; refine wpList_append_seg rfl _ _ 28 rfl w0.heap.size 5 i0 (.int .u8 0) 1 1 Tryz.underlying28 hi hz0 hz1 hz2 rfl (by decide) _ _ _ rfl (hs3.kept ((Kept.refl No _).alloc _) (fun _ _ f => f.elim)) ⟨_, 0, none⟩ 1 1 [.int .u8 (n : Int)] rfl rfl ?c1 ?c2 ?c3 ?c4 ?c5 ?_)
  case c1 => exact cell_one _ _ _
  case c2 => exact one_int _ _
  case c3 => unfold maxLen; omega
  case c4 => omega
  case c5 => simp only [World.size_alloc]; omega
  intro v3 w3 hs4 hg4 hb4
  have hK4 : Kept No w0 w3 := (HK02.out.alloc _).grown hg4 (fun g hlt hg => by have := (hs3.lt g hg).1; omega)
  have hq0 : Seg w3 w0.heap.size 5 1 v3 (preR vd ed fs 0).length (bv (preR vd ed fs 0)) := by
    have e : preR vd ed fs 0 = [82, vd] ++ beB ed.toNat 6 ++ [(n : Int)] := by rw [preR, HH.out]; simp [octsF]
    rw [e, bv_app]
    have el : ([82, vd] ++ beB ed.toNat 6 ++ [(n : Int)]).length = 9 := by simp [beB_len]
    rw [el]
    exact hs4
  clear hs3 hs4 hg4 hb4 c2 HX2 HK2 HK02 hz2' HH
  go_wp2_with fail
  go_loopw [3, 4] (fun b i wr => ∃ t : Nat, t ≤ n ∧ i = .int .i64 t ∧ Seg wr w0.heap.size 5 1 b (preR vd ed fs t).length (bv (preR vd ed fs t)) ∧ Kept No w0 wr) (fun _ i _ => n - (intOf i).toNat)
  case atStart => exact ⟨0, by omega, rfl, hq0, hK4⟩
  case round =>
    clear hq0 hK4
    obtain ⟨t, ht, rfl, hs, hK⟩ := hrel
    have hxr := HX.out.kept hK id
    have c2 : wr.cell? ⟨w.heap.size, 2, none⟩ = some (.slice ao n cap) := hxr.cell 2
    by_cases hlt : t < n
    · obtain ⟨f, hf⟩ : ∃ f, fs[t]? = some f := ⟨_, List.getElem?_eq_getElem (by have := HN.out; omega)⟩
      have hpk := H.out.pk hf
      obtain ⟨g, o, rfl, hg, e0, e1, e2, e3⟩ := (H.out.kept hK).at hf
      obtain ⟨p1, p2, p3, p4⟩ := HO.out.fine t f hf
      have hsu := preR_succ vd ed hf
      have hle1 := preR_le vd ed fs (t + 1)
      obtain ⟨fk, fi, fj, fv, fm, fzs⟩ := f
      have hfl : fzs.length = fm := by have := hpk.len; rw [vals_len] at this; simp only at this; omega
      obtain ⟨-, A, C, hfv, hmc, hmx, -, -⟩ := id hpk
      simp only at hfv e0 e1 e2 e3 hpk p1 p2 p3 p4 hmc
      subst hfv
      have hof : octF ⟨fk, fi, fj, .slice A fm C, fm, fzs⟩ = [fk, fi, fj] ++ (beB fm 2 ++ fzs) := by rw [octF, pre3_eq p1, hfl]
      rw [hof] at hsu
      rw [hsu] at hle1
      rw [List.length_append, List.length_append, List.length_append, beB_len] at hle1
      have hle := HT.out
      obtain ⟨⟨k1, k6⟩, ⟨i0', i3⟩, ⟨j0, j15⟩⟩ := key_parts p1
      unfold maxLen at hmx
      rw [hfl] at p2 p3
      have b1 : fm ≤ 4096 := p3
      have b2 : (preR vd ed fs t).length ≤ 100000 := by omega
      have HSU := Lib.hid hsu
      have HPK := Lib.hid hpk
      have HP4 := Lib.hid p4
      have HFL := Lib.hid hfl
      have hcp := Box.new wr #[.int .i64 fk, .int .i64 fi, .int .i64 fj, .slice A fm C] 48
      have hkc := (Kept.refl No wr).alloc (.cells #[.int .i64 fk, .int .i64 fi, .int .i64 fj, .slice A fm C] 48)
      clear hf hpk p1 p4 hof hsu hle1 hle hfl p2 p3
      go_upto_region 8 with fail
      clear e0 e1 e2 e3 c2
      have hszr := hK.size
      have hu3 := hs.lt
      have hs1 := hs.kept hkc (fun _ _ f => f.elim)
      have hK1 := hK.trans hkc (fun _ _ f => f)
      have HXC := Lib.hid (hxr.kept hkc id)
      have hbw : wr.heap.size < (wr.alloc (.cells #[.int .i64 fk, .int .i64 fi, .int .i64 fj, .slice A fm C] 48)).heap.size := hcp.lt
      have HKC := Lib.hid hkc
      generalize wr.alloc (.cells #[.int .i64 fk, .int .i64 fi, .int .i64 fj, .slice A fm C] 48) = wa at *
      have y0 : wa.cell? ⟨wr.heap.size, 0, none⟩ = some (.int .i64 fk) := hcp.cell 0
      have y1 : wa.cell? ⟨wr.heap.size, 1, none⟩ = some (.int .i64 fi) := hcp.cell 1
      have y2 : wa.cell? ⟨wr.heap.size, 2, none⟩ = some (.int .i64 fj) := hcp.cell 2
      have hsza := hK1.size
      clear hs hK hkc hxr
      go_wp2_with (at_builtin; refine wpList_append_seg rfl _ _ 28 rfl w0.heap.size 5 i0 (.int .u8 0) 1 1 Tryz.underlying28 hi hz0 hz1 hz2 rfl (by decide) _ _ _ rfl (hs1.kept ((Kept.refl No _).alloc _) (fun _ _ f => f.elim)) ⟨_, 0, none⟩ 3 3 (bv [fk, fi, fj]) rfl rfl ?c1 ?c2 ?c3 ?c4 ?c5 ?_)
      case c1 => exact cells_new _ _ _
      case c2 => exact oct_ints _
      case c3 => unfold maxLen; omega
      case c4 => omega
      case c5 => simp only [World.size_alloc]; omega
      intro v5 w5 hs5 hg5 hb5
      have hK5 : Kept No w0 w5 := (hK1.alloc _).grown hg5 (fun g hlt hg => by have := (hs1.lt g hg).1; omega)
      have hk5 : Kept (fun q => (Value.ownBlock _) = some q) wa w5 := (((Kept.refl No wa).alloc _).mono (fun _ _ f => f.elim)).grown hg5 (fun g hlt hg => hg)
      have hcp5 := hcp.kept hk5 (fun e => by have := hu3 _ e; omega)
      have y3 : w5.cell? ⟨wr.heap.size, 3, none⟩ = some (.slice A fm C) := hcp5.cell 3
      have hxl : (preR vd ed fs t).length + 3 = (preR vd ed fs t ++ [fk, fi, fj]).length := by simp
      rw [← bv_app, hxl] at hs5
      have HCP := Lib.hid hcp5
      have HPK5 := Lib.hid (HPK.out.kept hK5 (fun _ _ f => f))
      have hs5r := hs5.rd
      have hput := ref02put_is w5 _ _ _ hs5r (by omega) (fm : Int) 2 (by omega) (by omega) (by omega)
      have HPT := Lib.hid hput
      have hsz5 := hK5.size
      clear hcp hcp5 hk5 hg5 hb5 hs1 hK1 y0 y1 y2 hu3 HKC HXC hs5 hs5r hput hsza HPK
      go_wp2_with fail
      refine HPT.out.mono ?_
      rintro e w6 ⟨v6, rfl, hs6, k6'⟩
      have y3 : w6.cell? ⟨wr.heap.size, 3, none⟩ = some (.slice A fm C) := (HCP.out.kept k6' id).cell 3
      obtain ⟨xs, hxs⟩ : ∃ x, preR vd ed fs t ++ [fk, fi, fj] ++ beB fm 2 = x := ⟨_, rfl⟩
      have hxs2 : preR vd ed fs t ++ [fk, fi, fj] ++ beB ((fm : Int)).toNat 2 = xs := hxs
      rw [hxs2] at hs6
      have hxl2 : (preR vd ed fs t ++ [fk, fi, fj]).length + 2 = xs.length := by rw [← hxs]; simp only [List.length_append, beB_len]
      rw [hxl2] at hs6
      have HSX : Hid (preR vd ed fs (t + 1) = xs ++ fzs) := Lib.hid (by rw [HSU.out, ← hxs]; simp only [List.append_assoc])
      have b6 : xs.length ≤ 200000 := by rw [← hxl2, ← hxl]; omega
      have HS6 := Lib.hid hs6
      have HK6 := Lib.hid k6'
      have HK5 := Lib.hid hK5
      obtain ⟨W, hW⟩ : ∃ W, wr.heap.size = W := ⟨_, rfl⟩
      obtain ⟨W5, hW5⟩ : ∃ W, w5.heap.size = W := ⟨_, rfl⟩
      rw [hW] at HCP y3
      rw [hW5] at HS6
      rw [hW]
      clear hs6 k6' hK5 HPT hxs hxs2 hxl hxl2 HSU hW b2
      go_wp2_with fail
      generalize wr = wq at *
      go_loopw [3, 6] (fun b i wr => ∃ q : Nat, q ≤ fm ∧ i = .int .i64 q ∧ Seg wr W5 5 1 b (xs.length + q) (bv (xs ++ fzs.take q)) ∧ Kept No w5 wr) (fun _ i _ => fm - (intOf i).toNat)
      case atStart => exact ⟨0, by omega, rfl, by simpa using HS6.out, HK6.out⟩
      case round =>
        clear y3
        obtain ⟨q, hq, rfl, hs, hK⟩ := hrel
        have y3 : wr.cell? ⟨W, 3, none⟩ = some (.slice A fm C) := (HCP.out.kept hK id).cell 3
        by_cases hlq : q < fm
        · obtain ⟨z, hz⟩ : ∃ z, fzs[q]? = some z := ⟨_, List.getElem?_eq_getElem (by have := HFL.out; omega)⟩
          obtain ⟨z0, z7⟩ := HP4.out z (List.mem_of_getElem? hz)
          obtain ⟨-, ao', cap', hv, -, -, -, hcell⟩ := HPK5.out.kept hK (fun _ _ f => f)
          rw [Value.slice.injEq] at hv
          obtain ⟨rfl, -, rfl⟩ := hv
          obtain ⟨g', o', rfl, hg', hcell⟩ := hcell (by omega)
          have cz : wr.cell? ⟨g', o' + q, none⟩ = some (.int .i64 z) := hcell q _ (by rw [vals, List.getElem?_map, hz]; rfl)
          have htk : Hid (fzs.take (q + 1) = fzs.take q ++ [z]) := Lib.hid (by rw [List.take_add_one, hz]; rfl)
          have hsz := hK.size
          clear hcell hz
          go_wp2_with (at_builtin; refine wpList_append_seg rfl _ _ 28 rfl W5 5 i0 (.int .u8 0) 1 1 Tryz.underlying28 hi hz0 hz1 hz2 rfl (by decide) _ _ _ rfl (hs.kept ((Kept.refl No _).alloc _) (fun _ _ f => f.elim)) ⟨_, 0, none⟩ 1 1 [.int .u8 z] rfl rfl ?c1 ?c2 ?c3 ?c4 ?c5 ?_)
          case c1 => exact cell_one _ _ _
          case c2 => exact one_int _ _
          case c3 => unfold maxLen; omega
          case c4 => omega
          case c5 => simp only [World.size_alloc]; omega
          intro v7 w7 hs7 hg7 hb7
          have hK7 : Kept No w5 w7 := (hK.alloc _).grown hg7 (fun g hlt hg => by have := (hs.lt g hg).1; omega)
          clear hg7 hb7 hs hK y3 cz
          go_wp2_with fail
          go_roundw
          case rel =>
            refine ⟨q + 1, by omega, by go_num, ?_, hK7⟩
            rw [htk.out, ← List.append_assoc, bv_app]
            exact hs7
          case measure => simp [intOf]; omega
        · obtain rfl : q = fm := by omega
          have hfull : xs ++ fzs.take q = preR vd ed fs (t + 1) := by rw [HSX.out, List.take_of_length_le (by have := HFL.out; omega)]
          have hlen : xs.length + q = (preR vd ed fs (t + 1)).length := by rw [HSX.out, List.length_append, HFL.out]
          rw [hfull, hlen] at hs
          have hsm := hs.mono (B' := w0.heap.size) (by omega)
          have hKf := HK5.out.trans hK (fun _ _ f => f)
          clear hfull hlen hs
          go_wp2_with fail
          go_roundw
          case rel => exact ⟨t + 1, by omega, by go_num, hsm, hKf⟩
          case measure => simp [intOf]; omega
    · obtain rfl : t = n := by omega
      go_wp2_with fail
      go_ret
      have hfin : preR vd ed fs t = octR vd ed fs := by rw [preR, octR, List.take_of_length_le (by rw [← HN.out]; omega)]
      rw [hfin] at hs
      exact ⟨_, rfl, hs.rd, HK.out.trans hK (fun _ _ f => f)⟩
end Go.Proofs.YtaffaliplmfagaaGreatDoor.Line

set_option linter.unusedVariables false
set_option linter.unusedSimpArgs false
namespace Go.Proofs.YtaffaliplmfagaaGreatDoor.Line
open Go.RowKit Go.Sort Go.Proofs.YtaffaliplmfagaaGreatDoor.Own Go.Proofs.YtaffaliplmfagaaGreatDoor.Conv Go.Proofs.YtaffaliplmfagaaGreatDoor.Calm Go.Proofs.YtaffaliplmfagaaGreatDoor.Oct

theorem beB_succ (x n : Nat) : beB x (n + 1) = beB (x / 256) n ++ [((x % 256 : Nat) : Int)] := by
  unfold beB
  rw [List.range_succ, List.map_append]
  congr 1
  · apply List.map_congr_left
    intro k hk
    have hk := List.mem_range.1 hk
    rw [Nat.div_div_eq_div_mul, ← Nat.pow_succ', show (n - 1 - k).succ = n + 1 - 1 - k by omega]
  · simp
theorem beB_beN : ∀ (n : Nat) (l : List Int), Octs l → l.length = n → beB (beN l) n = l
  | 0, l, _, h => by
    obtain rfl := List.length_eq_zero_iff.1 h
    rfl
  | n + 1, l, ho, h => by
    obtain ⟨a, c, rfl⟩ : ∃ a c, l = a ++ [c] := ⟨l.dropLast, l.getLast (by intro e; rw [e] at h; simp at h), (List.dropLast_concat_getLast _).symm⟩
    have hc := ho c (by simp)
    have hl : a.length = n := by simpa using h
    have ih := beB_beN n a (fun z hz => ho z (by simp [hz])) hl
    rw [beN_snoc, beB_succ, show (beN a * 256 + c.toNat) / 256 = beN a by omega, show (beN a * 256 + c.toNat) % 256 = c.toNat by omega, ih, show ((c.toNat : Nat) : Int) = c by omega]
def sg (bs : List Int) (a n : Nat) : List Int := (bs.drop a).take n
theorem sg_add (bs : List Int) (a n m : Nat) : sg bs a (n + m) = sg bs a n ++ sg bs (a + n) m := by
  unfold sg
  rw [List.take_add, List.drop_drop]
theorem sg_len (bs : List Int) (a n : Nat) (h : a + n ≤ bs.length) : (sg bs a n).length = n := by
  unfold sg
  rw [List.length_take, List.length_drop]
  omega
theorem sg_oct {bs : List Int} (h : Octs bs) (a n : Nat) : Octs (sg bs a n) := fun c hc => h c (List.mem_of_mem_drop (List.mem_of_mem_take hc))
theorem sg_be {bs : List Int} (h : Octs bs) (a n : Nat) (hl : a + n ≤ bs.length) : beB (beN (sg bs a n)) n = sg bs a n := beB_beN n _ (sg_oct h a n) (sg_len bs a n hl)
theorem wrF_full (bs : List Int) : ∀ (d k : Nat), (Pick.wrF bs k d).2 = 0 → (Pick.wrF bs k d).1 = 2 + k + d ∧ (d = 0 ∨ 2 + k + d ≤ bs.length)
  | 0, k, h => ⟨rfl, .inl rfl⟩
  | d + 1, k, h => by
    rw [Pick.wrF] at h ⊢
    split at h
    · cases h
    · rename_i h1
      split at h
      · cases h
      · rename_i h2
        rw [if_neg h1, if_neg h2]
        obtain ⟨e1, e2⟩ := wrF_full bs d (k + 1) h
        exact ⟨by omega, .inr (by omega)⟩
theorem wrong_full (bs : List Int) (h : (Pick.wrongL bs).2 = 0) : (Pick.wrongL bs).1 = 2 + beN (bs.take 2) ∧ 2 + beN (bs.take 2) ≤ bs.length := by
  unfold Pick.wrongL at h ⊢
  split at h
  · cases h
  · rename_i h1
    split at h
    · cases h
    · rename_i h2
      rw [if_neg h1, if_neg h2]
      obtain ⟨e1, e2⟩ := wrF_full bs _ _ h
      exact ⟨by omega, by omega⟩
def octK (x : K3 × List Int) : List Int := pre3 x.1.1 x.1.2.1 x.1.2.2 3 ++ (beB x.2.length 2 ++ x.2)
theorem octsF_key (fs : List FoundI) : octsF fs = (fs.map keyF).flatMap octK := by
  unfold octsF
  rw [List.flatMap_map]
  rfl
theorem scan_got {bs : List Int} (ho : Octs bs) : ∀ (d a e : Nat), a ≤ bs.length → scanF bs a d = (e, 0) → a ≤ e ∧ e ≤ bs.length ∧ (gotF bs a d).flatMap octK = sg bs a (e - a) ∧ (gotF bs a d).length = d
  | 0, a, e, ha, h => by
    rw [scanF] at h
    obtain rfl : a = e := congrArg Prod.fst h
    refine ⟨Nat.le_refl _, ha, ?_, rfl⟩
    rw [Nat.sub_self]
    rfl
  | d + 1, a, e, ha, h => by
    rw [scanF] at h
    split at h
    · cases h
    · rename_i h3
      split at h
      · rename_i h4
        exact absurd (congrArg Prod.snd h) h4
      · rename_i h4
        obtain ⟨x1, x2⟩ := wrong_full _ (Decidable.not_not.1 h4)
        rw [List.length_drop] at x2
        rw [x1] at h
        obtain ⟨m, hm⟩ : ∃ m, beN (List.take 2 (List.drop (a + 3) bs)) = m := ⟨_, rfl⟩
        rw [hm] at x1 x2 h
        obtain ⟨i1, i2, i3, i4⟩ := scan_got ho d (a + 3 + (2 + m)) e (by omega) h
        refine ⟨by omega, i2, ?_, by rw [gotF, x1, List.length_cons, i4]⟩
        rw [gotF, x1, List.flatMap_cons, i3]
        have hz : List.take m (List.drop 2 (List.drop (a + 3) bs)) = sg bs (a + 5) m := by rw [List.drop_drop]; rfl
        rw [hm, hz]
        have hk : ∀ q, a + q + 1 ≤ bs.length → beB (beN (sg bs (a + q) 1)) 1 = sg bs (a + q) 1 := fun q hq => sg_be ho _ _ hq
        have h2 : beB m 2 = sg bs (a + 3) 2 := by rw [← hm]; exact sg_be ho (a + 3) 2 (by omega)
        have e0 : sg bs a (e - a) = sg bs a 1 ++ (sg bs (a + 1) 1 ++ (sg bs (a + 2) 1 ++ (sg bs (a + 3) 2 ++ (sg bs (a + 5) m ++ sg bs (a + 3 + (2 + m)) (e - (a + 3 + (2 + m))))))) := by
          rw [show e - a = 1 + (1 + (1 + (2 + (m + (e - (a + 3 + (2 + m))))))) by omega, sg_add, sg_add, sg_add, sg_add, sg_add, show a + 1 + 1 = a + 2 by omega, show a + 2 + 1 = a + 3 by omega, show a + 3 + 2 = a + 5 by omega, show a + 5 + m = a + 3 + (2 + m) by omega]
        have hok : octK ((((beN ((bs.drop a).take 1) : Nat) : Int), ((beN ((bs.drop (a + 1)).take 1) : Nat) : Int), ((beN ((bs.drop (a + 2)).take 1) : Nat) : Int)), sg bs (a + 5) m) = beB (beN (sg bs a 1)) 1 ++ (beB (beN (sg bs (a + 1) 1)) 1 ++ (beB (beN (sg bs (a + 2) 1)) 1 ++ (beB m 2 ++ sg bs (a + 5) m))) := by
          unfold octK pre3
          rw [sg_len bs (a + 5) m (by omega)]
          simp [List.flatMap_cons, sg]
        rw [hok, hk 1 (by omega), hk 2 (by omega), h2, e0, show beB (beN (sg bs a 1)) 1 = sg bs a 1 from hk 0 (by omega)]
        simp only [List.append_assoc]
theorem put_got {bs : List Int} (ho : Octs bs) {fs : List FoundI} (hw : (wrongP bs).2 = 0) (hw1 : (wrongP bs).1 = bs.length) (hf : fs.map keyF = gotF bs 9 (beN ((bs.drop 8).take 1))) : octR (vdG bs) (edG bs) fs = bs := by
  unfold wrongP at hw hw1
  split at hw
  · cases hw
  · rename_i h0
    rw [if_neg h0] at hw1
    split at hw
    · cases hw
    · rename_i h9
      rw [if_neg h9] at hw1
      split at hw
      · rename_i h1; exact absurd hw h1
      · rename_i h1
        rw [if_neg h1] at hw1
        split at hw
        · cases hw
        · rename_i h2
          rw [if_neg h2] at hw1
          have hsc : scanF bs 9 (beN ((bs.drop 8).take 1)) = (bs.length, 0) := Prod.ext hw1 (Decidable.not_not.1 h1)
          obtain ⟨-, -, e1, e2⟩ := scan_got ho _ _ _ (by omega) hsc
          have hlen : fs.length = beN (sg bs 8 1) := by
            have := congrArg List.length hf
            rw [List.length_map, e2] at this
            exact this
          have h82 : sg bs 0 1 = [82] := by
            have hz : bs.getD 0 0 = 82 := Decidable.not_not.1 (fun h => h0 (.inr h))
            match bs, h9, hz with
            | [], h9, _ => exact absurd (by simp) h9
            | c :: r, _, hz =>
              obtain rfl : c = 82 := hz
              rfl
          have hv : beB (vdG bs).toNat 1 = sg bs 1 1 := sg_be ho 1 1 (by omega)
          have he : beB (edG bs).toNat 6 = sg bs 2 6 := sg_be ho 2 6 (by omega)
          have h8 : beB (beN (sg bs 8 1)) 1 = sg bs 8 1 := sg_be ho 8 1 (by omega)
          have hall : bs = sg bs 0 1 ++ (sg bs 1 1 ++ (sg bs 2 6 ++ (sg bs 8 1 ++ sg bs 9 (bs.length - 9)))) := by
            have : bs = sg bs 0 bs.length := by simp [sg]
            conv => lhs; rw [this]
            conv => lhs; rw [show bs.length = 1 + (1 + (6 + (1 + (bs.length - 9)))) by omega, sg_add, sg_add, sg_add, sg_add]
          unfold octR octH
          rw [octsF_key, hf, e1, hlen, hv, he, h8]
          conv => rhs; rw [hall, h82]
          simp only [List.append_assoc]
end Go.Proofs.YtaffaliplmfagaaGreatDoor.Line

set_option linter.unusedVariables false
set_option linter.unusedSimpArgs false
namespace Go.Proofs.YtaffaliplmfagaaGreatDoor.Line
open Go.RowKit Go.Sort Go.Proofs.YtaffaliplmfagaaGreatDoor.Own Go.Proofs.YtaffaliplmfagaaGreatDoor.Conv Go.Proofs.YtaffaliplmfagaaGreatDoor.Calm Go.Proofs.YtaffaliplmfagaaGreatDoor.Oct

theorem beN_beBn : ∀ (n x : Nat), x < 256 ^ n → beN (beB x n) = x
  | 0, x, h => by
    have : x = 0 := by simpa using h
    subst this
    rfl
  | n + 1, x, h => by
    have h1 : x / 256 < 256 ^ n := by rw [Nat.pow_succ] at h; omega
    rw [beB_succ, beN_snoc, beN_beBn n _ h1]
    omega
theorem wrF_good (bs : List Int) (n : Nat) (hn : 2 + n ≤ bs.length) (h : Pick.okP ((bs.drop 2).take n)) : ∀ d k, k + d = n → Pick.wrF bs k d = (2 + n, 0)
  | 0, k, e => by rw [Pick.wrF]; simp; omega
  | d + 1, k, e => by
    have hm : bs.getD (2 + k) 0 ∈ (bs.drop 2).take n := by
      rw [List.mem_take_iff_getElem]
      exact ⟨k, by simp; omega, by simp [List.getD, show 2 + k < bs.length by omega]⟩
    have := h _ hm
    rw [Pick.wrF, if_neg (by omega), if_neg (by omega)]
    exact wrF_good bs n hn h d (k + 1) (by omega)
theorem again_p (zs bs : List Int) (h : ∀ z ∈ zs, 0 ≤ z ∧ z ≤ 7) (hn : zs.length ≤ 4096) : Pick.wrongL (beB zs.length 2 ++ zs ++ bs) = (2 + zs.length, 0) ∧ beN ((beB zs.length 2 ++ zs ++ bs).take 2) = zs.length ∧ ((beB zs.length 2 ++ zs ++ bs).drop 2).take zs.length = zs := by
  have hb : (beB zs.length 2).length = 2 := beB_len _ _
  have e2 : (beB zs.length 2 ++ zs ++ bs).take 2 = beB zs.length 2 := by rw [List.append_assoc, List.take_append_of_le_length (by omega), List.take_of_length_le (by omega)]
  have e3 : beN ((beB zs.length 2 ++ zs ++ bs).take 2) = zs.length := by rw [e2, beN_beBn 2 _ (by omega)]
  have e4 : ((beB zs.length 2 ++ zs ++ bs).drop 2).take zs.length = zs := by
    rw [List.append_assoc, List.drop_append_of_le_length (by omega), List.drop_of_length_le (by omega), List.nil_append, List.take_append_of_le_length (by omega), List.take_length]
  refine ⟨?_, e3, e4⟩
  rw [Pick.wrongL, if_neg (by simp only [List.length_append]; omega), e3, if_neg (by omega)]
  exact wrF_good _ _ (by simp only [List.length_append]; omega) (by rw [e4]; exact h) _ 0 (by omega)
theorem be_one (c : Int) (h : 0 ≤ c) : ((beN [c] : Nat) : Int) = c := by simp [beN]; omega
theorem drop_pre (a b : List Int) (n : Nat) (h : a.length = n) : (a ++ b).drop n = b := by subst h; simp
theorem scan_back : ∀ (fs : List FoundI) (pre : List Int), (∀ f ∈ fs, isKey f.k f.i f.j = true ∧ f.zs.length ≤ 4096 ∧ ∀ z ∈ f.zs, 0 ≤ z ∧ z ≤ 7) →
    scanF (pre ++ octsF fs) pre.length fs.length = ((pre ++ octsF fs).length, 0) ∧ gotF (pre ++ octsF fs) pre.length fs.length = fs.map keyF
  | [], pre, _ => by simp [octsF, scanF, gotF]
  | f :: fs, pre, h => by
    obtain ⟨h1, h2, h3⟩ := h f (by simp)
    obtain ⟨i1, i2⟩ := scan_back fs (pre ++ octF f) (fun g hg => h g (by simp [hg]))
    obtain ⟨⟨k1, k6⟩, ⟨i0, i3⟩, ⟨j0, j15⟩⟩ := key_parts h1
    have hof : octF f = [f.k, f.i, f.j] ++ (beB f.zs.length 2 ++ f.zs) := by rw [octF, pre3_eq h1]
    have hcons : octsF (f :: fs) = octF f ++ octsF fs := rfl
    obtain ⟨T, hT⟩ : ∃ T, octsF fs = T := ⟨_, rfl⟩
    rw [hT] at i1 i2
    obtain ⟨a1, a2, a3⟩ := again_p f.zs T h3 h2
    have hbs : pre ++ octsF (f :: fs) = pre ++ octF f ++ T := by rw [hcons, hT, List.append_assoc]
    have hl : (pre ++ octF f).length = pre.length + 3 + (2 + f.zs.length) := by
      rw [hof]
      simp only [List.length_append, List.length_cons, List.length_nil, beB_len]
      omega
    have hX : pre ++ octF f ++ T = (pre ++ [f.k, f.i, f.j]) ++ (beB f.zs.length 2 ++ f.zs ++ T) := by rw [hof]; simp only [List.append_assoc]
    have d3 : (pre ++ octF f ++ T).drop (pre.length + 3) = beB f.zs.length 2 ++ f.zs ++ T := by rw [hX]; exact drop_pre _ _ _ (by simp)
    have d0 : (pre ++ octF f ++ T).drop pre.length = f.k :: f.i :: f.j :: (beB f.zs.length 2 ++ f.zs ++ T) := by rw [hX, List.append_assoc]; exact drop_pre _ _ _ rfl
    have d1 : (pre ++ octF f ++ T).drop (pre.length + 1) = f.i :: f.j :: (beB f.zs.length 2 ++ f.zs ++ T) := by rw [← List.drop_drop, d0]; rfl
    have d2 : (pre ++ octF f ++ T).drop (pre.length + 2) = f.j :: (beB f.zs.length 2 ++ f.zs ++ T) := by rw [← List.drop_drop, d0]; rfl
    have hlt : ¬ (pre ++ octF f ++ T).length < pre.length + 3 := by
      rw [List.length_append, hl]
      omega
    rw [hbs, List.length_cons]
    constructor
    · rw [scanF, if_neg hlt, d3, a1, if_neg (fun h => h rfl), ← hl]
      exact i1
    · rw [gotF, d3, a1, a2, a3, d0, d1, d2, ← hl, i2]
      simp only [List.take_succ_cons, List.take_zero, List.map_cons, keyF]
      rw [be_one _ (by omega), be_one _ (by omega), be_one _ (by omega)]
/-- What is put is right, and tells the report. -/
theorem got_put {vd ed : Int} {fs : List FoundI} (h : OkR vd ed fs) : wrongP (octR vd ed fs) = ((octR vd ed fs).length, 0) ∧ gotF (octR vd ed fs) 9 (beN (((octR vd ed fs).drop 8).take 1)) = fs.map keyF ∧ vdG (octR vd ed fs) = vd ∧ edG (octR vd ed fs) = ed := by
  obtain ⟨v1, v4⟩ := h.v
  obtain ⟨e0, e4⟩ := h.e
  have hn := h.n
  have hhl : (octH vd ed fs.length).length = 9 := by simp only [octH, List.length_append, beB_len, List.length_singleton]
  have hfi : ∀ f ∈ fs, isKey f.k f.i f.j = true ∧ f.zs.length ≤ 4096 ∧ ∀ z ∈ f.zs, 0 ≤ z ∧ z ≤ 7 := fun f hf => by
    obtain ⟨t, ht⟩ := List.getElem?_of_mem hf
    obtain ⟨p1, p2, p3, p4⟩ := h.fine t f ht
    exact ⟨p1, p3, p4⟩
  obtain ⟨s1, s2⟩ := scan_back fs (octH vd ed fs.length) hfi
  rw [hhl] at s1 s2
  have hR : octR vd ed fs = octH vd ed fs.length ++ octsF fs := rfl
  have hE : octR vd ed fs = [82] ++ (beB vd.toNat 1 ++ (beB ed.toNat 6 ++ (beB fs.length 1 ++ octsF fs))) := by rw [hR, octH]; simp only [List.append_assoc]
  have c8 : ((octR vd ed fs).drop 8).take 1 = beB fs.length 1 := by
    rw [hE, show [82] ++ (beB vd.toNat 1 ++ (beB ed.toNat 6 ++ (beB fs.length 1 ++ octsF fs))) = ([82] ++ beB vd.toNat 1 ++ beB ed.toNat 6) ++ (beB fs.length 1 ++ octsF fs) by simp only [List.append_assoc], drop_pre _ _ _ (by simp [beB_len]), List.take_append_of_le_length (by simp [beB_len]), List.take_of_length_le (by simp [beB_len])]
  have c1 : ((octR vd ed fs).drop 1).take 1 = beB vd.toNat 1 := by
    rw [hE, drop_pre [82] _ 1 rfl, List.take_append_of_le_length (by simp [beB_len]), List.take_of_length_le (by simp [beB_len])]
  have c2 : ((octR vd ed fs).drop 2).take 6 = beB ed.toNat 6 := by
    rw [hE, show [82] ++ (beB vd.toNat 1 ++ (beB ed.toNat 6 ++ (beB fs.length 1 ++ octsF fs))) = ([82] ++ beB vd.toNat 1) ++ (beB ed.toNat 6 ++ (beB fs.length 1 ++ octsF fs)) by simp only [List.append_assoc], drop_pre _ _ _ (by simp [beB_len]), List.take_append_of_le_length (by simp [beB_len]), List.take_of_length_le (by simp [beB_len])]
  have b8 : beN (((octR vd ed fs).drop 8).take 1) = fs.length := by rw [c8, beN_beBn 1 _ (by omega)]
  have hlen : 9 ≤ (octR vd ed fs).length := by rw [hR, List.length_append, hhl]; omega
  refine ⟨?_, ?_, ?_, ?_⟩
  · have h82 : (octR vd ed fs).getD 0 0 = 82 := by rw [hE]; rfl
    refine wrong_none h82 (by omega) ?_ (by omega)
    rw [b8]
    exact s1
  · rw [b8]
    exact s2
  · rw [vdG, c1, beN_beBn 1 _ (by omega)]
    omega
  · rw [edG, c2, beN_beBn 6 _ (by omega)]
    omega
end Go.Proofs.YtaffaliplmfagaaGreatDoor.Line
