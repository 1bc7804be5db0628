/-
  paper.head, paper.picks.
-/
import Derived.Test.YtaffaliplmfagaaGreatDoorPap4
import Derived.Test.YtaffaliplmfagaaGreatDoorParse
import Derived.Test.YtaffaliplmfagaaGreatDoorSplit13
import Derived.BigQuiet
set_option linter.unusedVariables false
set_option linter.unusedSimpArgs false
namespace Go.Proofs.YtaffaliplmfagaaGreatDoor.Line
open Go.RowKit Go.Sort Go.Proofs.YtaffaliplmfagaaGreatDoor.Own Go.Proofs.YtaffaliplmfagaaGreatDoor.Conv Go.Proofs.YtaffaliplmfagaaGreatDoor.Calm

def sumS (xs : List (List UInt8)) : Nat := (xs.map fun p => p.length + 1).sum
theorem sumS_app (a b : List (List UInt8)) : sumS (a ++ b) = sumS a + sumS b := by simp [sumS]
theorem lines_sum : ∀ l : List UInt8, sumS (linesL l) ≤ l.length + 1
  | [] => by simp [linesL, sumS]
  | b :: r => by
    have ih := lines_sum r
    rw [linesL]
    split
    · simp only [sumS, List.map_cons, List.sum_cons, List.length_cons, List.length_nil] at ih ⊢
      omega
    · split
      · simp [sumS]
      · rename_i p ps e
        rw [e] at ih
        simp only [sumS, List.map_cons, List.sum_cons, List.length_cons] at ih ⊢
        omega
theorem take_sum (xs : List (List UInt8)) (i : Nat) : sumS (xs.take i) ≤ sumS xs := by
  have := sumS_app (xs.take i) (xs.drop i)
  rw [List.take_append_drop] at this
  omega
theorem mem_sum : ∀ {xs : List (List UInt8)} {p : List UInt8}, p ∈ xs → p.length + 1 ≤ sumS xs
  | x :: xs, p, h => by
    simp only [sumS, List.map_cons, List.sum_cons]
    rcases List.mem_cons.1 h with rfl | h
    · omega
    · have := mem_sum h
      simp only [sumS] at this
      omega
theorem pieces_sum (c : UInt8) : ∀ l : List UInt8, ((pieces c l).map List.length).sum ≤ l.length
  | [] => by simp [pieces]
  | b :: r => by
    have ih := pieces_sum c r
    rw [pieces]
    split
    · simp only [List.map_cons, List.sum_cons, List.length_cons, List.length_nil] at ih ⊢
      omega
    · split
      · simp
      · rename_i p ps e
        rw [e] at ih
        simp only [List.map_cons, List.sum_cons, List.length_cons] at ih ⊢
        omega
theorem filter_sum : ∀ xs : List (List UInt8), (xs.filter (fun p => !p.isEmpty)).length ≤ (xs.map List.length).sum
  | [] => by simp
  | x :: xs => by
    have ih := filter_sum xs
    rw [List.filter_cons]
    simp only [List.map_cons, List.sum_cons]
    split
    · rename_i h
      have : x.length ≠ 0 := by intro e; rw [List.length_eq_zero_iff.1 e] at h; cases h
      simp only [List.length_cons]
      omega
    · omega
theorem words_count (l : List UInt8) : (wordsL l).length ≤ l.length := Nat.le_trans (filter_sum _) (pieces_sum 32 l)
theorem words_nil : wordsL [] = [] := rfl

set_option maxRecDepth 100000 in
set_option maxHeartbeats 8000000 in
theorem ppicks_is (l : List UInt8) (hl : l.length ≤ 1000) (w : World) (hT : Door.Tabs w) :
    Calls Tryz.prog 30 #[.string ⟨l.toArray⟩] w fun e w' => Kept No w w' ∧ ∃ v ok, e = .returned (.tuple #[v, .bool ok]) ∧ (ok = true → l ≠ [] ∧ ∃ n zs, n ≤ l.length ∧ Seg w' w.heap.size 3 1 v n (vals zs)) := by
  obtain ⟨i0, hi, hz0, hz1, hz2⟩ := info_parts Pick.info_int
  have hwc := words_count l
  have hW := words_is l (by omega) w
  obtain ⟨s0, hs0⟩ : ∃ s : ByteArray, (⟨l.toArray⟩ : ByteArray) = s := ⟨_, rfl⟩
  rw [hs0] at hW ⊢
  have HW := Lib.hid hW
  have HT := Lib.hid hT
  clear hW hT hs0
  go_enter Tryz.func30, Tryz.ntmps30
  go_wp2_with fail
  refine HW.out.mono ?_
  rintro e w1 ⟨k1, v, rfl, hseg⟩
  obtain ⟨n, hn⟩ : ∃ n, (wordsL l).length = n := ⟨_, rfl⟩
  rw [hn] at hseg hwc
  have HSG := Lib.hid hseg
  have HK1 := Lib.hid k1
  have HN := Lib.hid hn
  have hsz1 := k1.size
  obtain ⟨-, ao, cw, rfl, hc, hm, -, hR⟩ := hseg.rd
  unfold maxLen at hm
  clear hseg k1 hR hn HW
  go_wp2_with fail
  go_loopw [4, 12] (fun o i wr => ∃ (k : Nat) (zs : List Int), k ≤ n ∧ i = .int .i64 k ∧ Seg wr w1.heap.size 3 1 o k (vals zs) ∧ Kept No w1 wr) (fun _ i _ => n - (intOf i).toNat)
  case atStart => exact ⟨0, [], by omega, rfl, Seg.nil _ _ _ _, Kept.refl _ _⟩
  case round =>
    obtain ⟨k, zs, hk, rfl, hs, hK⟩ := hrel
    by_cases hlt : k < n
    · obtain ⟨x, hx⟩ : ∃ x, (wordsL l)[k]? = some x := ⟨_, List.getElem?_eq_getElem (by have := HN.out; omega)⟩
      have hxl : x.length ≤ l.length := words_le (List.mem_of_getElem? hx)
      obtain ⟨-, ao', cw', hv, -, -, -, hR⟩ := HSG.out.rd.kept hK (fun _ _ f => f)
      rw [Value.slice.injEq] at hv
      obtain ⟨rfl, -, rfl⟩ := hv
      obtain ⟨g, o, rfl, hg, hcell⟩ := hR (by omega)
      obtain ⟨sx, hsx⟩ : ∃ s : ByteArray, (⟨x.toArray⟩ : ByteArray) = s := ⟨_, rfl⟩
      have cx : wr.cell? ⟨g, o + k, none⟩ = some (.string sx) := hcell k _ (by rw [sv, List.getElem?_map, hx, ← hsx]; rfl)
      have HSM := Lib.hid (small_is x (by omega) 7)
      rw [hsx] at HSM
      obtain ⟨a, ha⟩ : ∃ a, (smallL x 7).getD 0 = a := ⟨_, rfl⟩
      obtain ⟨ok, hok⟩ : ∃ a, (smallL x 7).isSome = a := ⟨_, rfl⟩
      rw [ha, hok] at HSM
      have HTR := Lib.hid (HT.out.kept (HK1.out.trans hK (fun _ _ f => f)))
      have HKR := Lib.hid hK
      have HS := Lib.hid hs
      clear hx hsx hR hcell hg ha hok hs hK
      go_wp2_with fail
      refine (HSM.out _ HTR.out).mono ?_
      rintro e w2 ⟨rfl, k2⟩
      have hs2 := HS.out.kept k2 (fun _ _ f => f)
      have hK2 := HKR.out.trans k2 (fun _ _ f => f)
      have hsz2 := hK2.size
      clear cx k2 HS HKR HTR HSM
      cases ok with
      | false =>
        go_wp2_with fail
        go_ret2
        exact ⟨HK1.out.trans hK2 (fun _ _ f => f), _, _, rfl, fun h => by cases h⟩
      | true =>
        go_wp2_with (at_builtin; refine wpList_append_seg rfl _ _ 46 rfl w1.heap.size 3 i0 (.int .i64 0) 1 8 Tryz.underlying46 hi hz0 hz1 hz2 rfl (by decide) _ _ _ rfl (hs2.kept ((Kept.refl No _).alloc _) (fun _ _ f => f.elim)) ⟨_, 0, none⟩ 1 1 (vals [a]) rfl rfl ?c1 ?c2 ?c3 ?c4 ?c5 ?_)
        case c1 => exact cell_one _ _ _
        case c2 => exact one_ints _
        case c3 => unfold maxLen; omega
        case c4 => omega
        case c5 => simp only [World.size_alloc]; omega
        intro v7 w7 hs7 hg7 hb7
        have hK7 : Kept No w1 w7 := (hK2.alloc _).grown hg7 (fun g hlt hg => by have := (hs2.lt g hg).1; omega)
        have hs8 : Seg w7 w1.heap.size 3 1 v7 (k + 1) (vals (zs ++ [a])) := by rw [show vals (zs ++ [a]) = vals zs ++ vals [a] from by simp [vals]]; exact hs7
        clear hs7 hg7 hb7 hs2 hK2
        go_wp2_with fail
        go_roundw
        case rel => exact ⟨k + 1, _, by omega, by go_num, hs8, hK7⟩
        case measure => simp [intOf]; omega
    · obtain rfl : k = n := by omega
      obtain ⟨-, A, C, rfl, -, -, -, -⟩ := id hs.rd
      have HS := Lib.hid (hs.mono (B' := w.heap.size) hsz1)
      have HKF := Lib.hid (HK1.out.trans hK (fun _ _ f => f))
      clear hs hK
      go_wp2_with fail
      go_ret2
      refine ⟨HKF.out, _, _, rfl, fun h => ⟨fun e => ?_, k, zs, hwc, HS.out⟩⟩
      have h0 := HN.out
      rw [e, words_nil] at h0
      rw [← h0] at h
      cases h

theorem idx_bd (x : ByteArray) : ∀ (zs : List ByteArray) (i : Nat), -1 ≤ Lib.idxFromS zs x i ∧ Lib.idxFromS zs x i ≤ (i : Int) + zs.length
  | [], i => by simp [Lib.idxFromS]
  | z :: zs, i => by
    obtain ⟨h1, h2⟩ := idx_bd x zs (i + 1)
    rw [Lib.idxFromS]
    split
    · simp only [List.length_cons]; omega
    · simp only [List.length_cons]; omega
def vnameB : List ByteArray := vnames.map fun l => ⟨l.toArray⟩
theorem vidx_is (b : Nat) (sx : ByteArray) (w : World) (h : Box w b vnameS 9) :
    Calls Tryz.prog 51 #[.slice (some ⟨b, 0, none⟩) 4 4, .string sx] w fun e w' => e = .returned (.int .i64 (Lib.idxOfS vnameB sx)) ∧ w' = w := by
  have := Tryz.slices_Index_string b 0 4 4 vnameB sx w (by decide) (by omega) (fun j hj => by
    rw [Nat.zero_add, Box.cell h]
    have hj' : j < 4 := hj
    have : j = 0 ∨ j = 1 ∨ j = 2 ∨ j = 3 := by omega
    rcases this with rfl | rfl | rfl | rfl <;> rfl)
  exact this

set_option maxRecDepth 100000 in
set_option maxHeartbeats 8000000 in
theorem head_is (l : List UInt8) (hl : l.length ≤ 1000) (w : World) (hT : Door.Tabs w) :
    Calls Tryz.prog 28 #[.string ⟨l.toArray⟩] w fun e w' => Kept No w w' ∧ ∃ (vd ed : Int) (ok : Bool), e = .returned (.tuple #[.agg #[.int .i64 vd, .int .i64 ed, .slice none 0 0], .bool ok]) ∧ (ok = true → l ≠ []) := by
  have hW := words_is l (by omega)
  obtain ⟨s0, hs0⟩ : ∃ s : ByteArray, (⟨l.toArray⟩ : ByteArray) = s := ⟨_, rfl⟩
  rw [hs0] at hW ⊢
  have HW := Lib.hid hW
  have HT := Lib.hid hT
  have hb0 := Box.new w #[.int .i64 0, .int .i64 0, .slice none 0 0] 24
  have hk0 := (Kept.refl No w).alloc (.cells #[.int .i64 0, .int .i64 0, .slice none 0 0] 24)
  clear hW hT hs0
  go_enter Tryz.func28, Tryz.ntmps28
  go_upto_region 1 with fail
  generalize w.alloc (.cells #[.int .i64 0, .int .i64 0, .slice none 0 0] 24) = w0 at *
  go_wp2_with fail
  refine (HW.out w0).mono ?_
  rintro e w1 ⟨k1, v, rfl, hseg⟩
  have hb1 := hb0.kept k1 id
  have hk1 := hk0.trans k1 (fun _ _ f => f)
  clear k1 hb0 hk0 HW
  obtain ⟨-, ao, cw, rfl, hc, hm, -, hR⟩ := hseg.rd
  unfold maxLen at hm
  by_cases h2 : (wordsL l).length = 2
  · obtain ⟨x, y, hxy⟩ : ∃ x y, wordsL l = [x, y] := by
      match hw : wordsL l, h2 with
      | [x, y], _ => exact ⟨x, y, rfl⟩
    have hne : Hid (l ≠ []) := Lib.hid (fun e => by rw [e, words_nil] at hxy; cases hxy)
    rw [hxy] at hR
    obtain ⟨g, o, rfl, hg, hcell⟩ := hR (by simp)
    obtain ⟨sx, hsx⟩ : ∃ s : ByteArray, (⟨x.toArray⟩ : ByteArray) = s := ⟨_, rfl⟩
    obtain ⟨sy, hsy⟩ : ∃ s : ByteArray, (⟨y.toArray⟩ : ByteArray) = s := ⟨_, rfl⟩
    have x0 : w1.cell? ⟨g, o, none⟩ = some (.string sx) := by rw [← hsx]; exact hcell 0 _ rfl
    have x1 : w1.cell? ⟨g, o + 1, none⟩ = some (.string sy) := by rw [← hsy]; exact hcell 1 _ rfl
    have ly : y.length ≤ 1000000 := by have := words_le (l := l) (p := y) (by rw [hxy]; simp); omega
    have HY := Lib.hid (small_is y ly 1099511627776)
    rw [hsy] at HY
    obtain ⟨a, ha⟩ : ∃ a, (smallL y 1099511627776).getD 0 = a := ⟨_, rfl⟩
    obtain ⟨ok, hok⟩ : ∃ a, (smallL y 1099511627776).isSome = a := ⟨_, rfl⟩
    rw [ha, hok] at HY
    rw [h2] at hc ⊢
    have q0 : ∀ p : KW w1, p.w.cell? ⟨g, o, none⟩ = some (.string sx) := KW.old x0 hg
    have HB1 := Lib.hid hb1
    have HK1 := Lib.hid hk1
    have HX1 := Lib.hid x1
    have HG := Lib.hid hg
    clear hR hseg hcell h2 hxy ly hsx hsy ha hok x0 x1 hb1 hk1 hg
    go_upto_region 4 with fail
    refine wp_region_dyn ([1, 2, 3] ++ 0 :: 4 :: ([5] ++ [])) (by kernel_rfl) (by kernel_rfl) ?_
    refine dyn_reads _ _ (by kernel_rfl) ?_
    simp only [sel, List.filterMap_cons, List.filterMap_nil, List.getElem?_cons_succ, List.getElem?_cons_zero]
    repeat (show wpQuiet _ _ _ _ (_ :: _) _; go_big_quiet_step (fail))
    refine wpQuiet_nil ?_
    refine dyn_fn 35 #[] rfl rfl rfl (by intro w; go_simp) ?_
    intro p
    refine (pnames_is p.w).mono ?_
    rintro e w2 ⟨rfl, b2, k2⟩
    refine ⟨_, rfl, k2, ?_⟩
    have hk2 := p.h.trans k2 (fun _ _ f => f)
    generalize p.w.heap.size = bn at *
    have B2 := Lib.hid b2
    clear q0 b2 k2
    simp only [Act.put, List.setIfInBounds_toArray, List.set]
    refine dyn_fn 51 #[.slice (some ⟨bn, 0, none⟩) 4 4, .string sx] rfl rfl rfl (by intro w; go_simp) ?_
    intro p2
    refine (vidx_is bn sx p2.w (B2.out.kept p2.h id)).mono ?_
    rintro e w3 ⟨rfl, rfl⟩
    refine ⟨_, rfl, Kept.refl _ _, ?_⟩
    have hk3 := hk2.trans p2.h (fun _ _ f => f)
    obtain ⟨z1, z2⟩ := idx_bd sx vnameB 0
    have hz4 : (vnameB.length : Int) = 4 := rfl
    rw [hz4] at z2
    have hzz : Lib.idxOfS vnameB sx = Lib.idxFromS vnameB sx 0 := rfl
    rw [hzz]
    generalize Lib.idxFromS vnameB sx 0 = z at *
    generalize p2.w = w4 at *
    clear hz4 hzz B2 hk2
    simp only [Act.put, List.setIfInBounds_toArray, List.set]
    refine dyn_reads (rest := []) [5] _ (by kernel_rfl) ?_
    simp only [sel, List.filterMap_cons, List.filterMap_nil, List.getElem?_cons_succ, List.getElem?_cons_zero]
    repeat (show wpQuiet _ _ _ _ (_ :: _) _; go_big_quiet_step (fail))
    refine wpQuiet_nil ?_
    refine dyn_nil fun r => ?_
    have hk5 := hk3.trans r.h (fun _ _ f => f)
    generalize r.w = w5 at *
    have hb5 := HB1.out.kept hk5 id
    have hK5 := HK1.out.trans hk5 (fun _ _ f => f)
    have x1 : w5.cell? ⟨g, o + 1, none⟩ = some (.string sy) := (hk5.cell (p := ⟨g, o + 1, none⟩) HG.out id).trans HX1.out
    have HT5 := Lib.hid (HT.out.kept hK5)
    clear hk3 hk5 HB1 HK1 HX1 HG
    go_wp2_with fail
    refine (HY.out _ HT5.out).mono ?_
    rintro e w6 ⟨rfl, k6⟩
    have hb6 := hb5.kept k6 id
    have hk6 := hK5.trans k6 (fun _ _ f => f)
    have hrow := row_kept hk6 (g := w.heap.size) (Nat.le_refl _) #[.int .i64 (z + 1), .int .i64 a, .slice none 0 0]
    have hb7 := Box.row (cs := #[.int .i64 (z + 1), .int .i64 a, .slice none 0 0]) hb6
    have HR := Lib.hid hrow
    have HB7 := Lib.hid hb7
    clear hb5 hK5 x1 HT5 HY k6 hk6 hrow hb7
    by_cases hz0 : 0 ≤ z
    all_goals
      cases ok
      all_goals
        go_wp2_with (refine wpList_store_rowTo rfl 24 _ _ rfl rfl w.heap.size #[.int .i64 (z + 1), .int .i64 a, .slice none 0 0] (by kernel_rfl) (by kernel_rfl) 24 _ hb6 (by kernel_rfl) (by kernel_rfl) (by kernel_rfl) ?_)
        refine bodyPost_ret (results_row_tmp rfl _ _ w.heap.size 24 #[.int .i64 (z + 1), .int .i64 a, .slice none 0 0] (0, 0) _ rfl HB7.out Tryz.underlying24 rfl (by kernel_rfl)) rfl ?_
        exact ⟨HR.out, _, _, _, rfl, fun _ => hne.out⟩
  · obtain ⟨n, hn⟩ : ∃ n, (wordsL l).length = n := ⟨_, rfl⟩
    rw [hn] at h2 hc ⊢
    have hb2 : ((n : Int) != 2) = true := by rw [bne_iff_ne]; omega
    have hrow := row_kept hk1 (g := w.heap.size) (Nat.le_refl _) #[.int .i64 0, .int .i64 0, .slice none 0 0]
    have hb7 := Box.row (cs := #[.int .i64 0, .int .i64 0, .slice none 0 0]) hb1
    have HR := Lib.hid hrow
    have HB7 := Lib.hid hb7
    clear hrow hb7 hR hseg hn h2 hk1
    go_wp2_with (refine wpList_store_rowTo rfl 24 _ _ rfl rfl w.heap.size #[.int .i64 0, .int .i64 0, .slice none 0 0] (by kernel_rfl) (by kernel_rfl) 24 _ hb1 (by kernel_rfl) (by kernel_rfl) (by kernel_rfl) ?_)
    refine bodyPost_ret (results_row_tmp rfl _ _ w.heap.size 24 #[.int .i64 0, .int .i64 0, .slice none 0 0] (0, 0) _ rfl HB7.out Tryz.underlying24 rfl (by kernel_rfl)) rfl ?_
    exact ⟨HR.out, _, _, _, rfl, fun h => by cases h⟩
end Go.Proofs.YtaffaliplmfagaaGreatDoor.Line
