/-
  A report's text, line by line: in plain lists. paper.head, paper.picks of what a text's lines are. paper.head of a text's first line. paper.Parse of a report's text. paper.Parse of a report's text.
-/
import Derived.Test.YtaffaliplmfagaaGreatDoorPap18
import Derived.Test.YtaffaliplmfagaaGreatDoorRefJoin
import Derived.BigQuiet
import Derived.Test.YtaffaliplmfagaaGreatDoorPap19
set_option linter.unusedVariables false
set_option linter.unusedSimpArgs false
namespace Go.Proofs.YtaffaliplmfagaaGreatDoor.Line
open Go.RowKit Go.Sort Go.Proofs.YtaffaliplmfagaaGreatDoor.Own Go.Proofs.YtaffaliplmfagaaGreatDoor.Conv Go.Proofs.YtaffaliplmfagaaGreatDoor.Calm

theorem itoa_digit (v : Int) (h : 0 ≤ v) : Lib.itoa v ≠ [] ∧ ∀ b ∈ Lib.itoa v, 48 ≤ b.toNat ∧ b.toNat ≤ 57 := by
  obtain ⟨u, rfl⟩ : ∃ u : Nat, v = (u : Int) := ⟨v.toNat, by omega⟩
  rw [Lib.itoa_nonneg]
  exact ⟨dec_ne u, dec_digits u⟩
theorem itoa_isw (v : Int) (h : 0 ≤ v) : isWord (Lib.itoa v) := by
  obtain ⟨h1, h2⟩ := itoa_digit v h
  refine isWord_of h1 fun b hb e => ?_
  have := h2 b hb
  rw [e] at this
  exact absurd this.1 (by decide)
theorem itoa_ten (v : Int) (h : 0 ≤ v) : ∀ b ∈ Lib.itoa v, b ≠ 10 := fun b hb e => by
  have := (itoa_digit v h).2 b hb
  rw [e] at this
  exact absurd this.1 (by decide)
theorem tail_ten (xs : List (List UInt8)) (h : ∀ t ∈ xs, ∀ b ∈ t, b ≠ 10) : ∀ b ∈ Lib.joinTail [32] xs, b ≠ 10 := by
  intro b hb
  unfold Lib.joinTail at hb
  obtain ⟨l, hl, hb⟩ := List.mem_flatten.1 hb
  obtain ⟨t, ht, rfl⟩ := List.mem_map.1 hl
  rcases List.mem_append.1 hb with hb | hb
  · rw [List.mem_singleton] at hb
    rw [hb]
    decide
  · exact h t ht b hb
theorem join_ten (xs : List (List UInt8)) (h : ∀ t ∈ xs, ∀ b ∈ t, b ≠ 10) : ∀ b ∈ Lib.join xs [32], b ≠ 10 := by
  intro b hb
  cases xs with
  | nil => rw [Lib.join_nil] at hb; cases hb
  | cons x r =>
    rw [Lib.join_cons, List.mem_append] at hb
    rcases hb with hb | hb
    · exact h x (by simp) b hb
    · exact tail_ten r (fun t ht => h t (by simp [ht])) b hb
theorem small_itoa {z m : Int} (h : 0 ≤ z ∧ z ≤ m) (hm : m ≤ 9223372036854775807) : smallL (Lib.itoa z) m = some z := by
  unfold smallL
  rw [numberL_some.2 ⟨rfl, by omega, by omega⟩]
  simp [h]
theorem vname_parts (vd : Int) (h : 1 ≤ vd ∧ vd ≤ 4) : isWord (vname (vd - 1).toNat) ∧ (∀ b ∈ vname (vd - 1).toNat, b ≠ 10) ∧ Lib.idxOfS vnameB ⟨(vname (vd - 1).toNat).toArray⟩ = vd - 1 := by
  have : vd = 1 ∨ vd = 2 ∨ vd = 3 ∨ vd = 4 := by omega
  rcases this with rfl | rfl | rfl | rfl <;> exact ⟨by unfold isWord; decide +kernel, by decide +kernel, by decide +kernel⟩
theorem key_parts' (k : Int) (h : 1 ≤ k ∧ k ≤ 6) : kindOf (nameOf k) = k ∧ isWord (nameOf k) ∧ (∀ b ∈ nameOf k, b ≠ 10) := by
  have : k = 1 ∨ k = 2 ∨ k = 3 ∨ k = 4 ∨ k = 5 ∨ k = 6 := by omega
  rcases this with rfl | rfl | rfl | rfl | rfl | rfl <;> exact ⟨by decide +kernel, by unfold isWord; decide +kernel, by decide +kernel⟩
theorem head_words {vd ed : Int} (hv : 1 ≤ vd ∧ vd ≤ 4) (he : 0 ≤ ed) : wordsL (headR vd ed) = [vname (vd - 1).toNat, Lib.itoa ed] := words_join _ (by
  intro t ht
  simp only [List.mem_cons, List.not_mem_nil, or_false] at ht
  rcases ht with rfl | rfl
  · exact (vname_parts vd hv).1
  · exact itoa_isw _ he)
theorem head_ten {vd ed : Int} (hv : 1 ≤ vd ∧ vd ≤ 4) (he : 0 ≤ ed) : ∀ b ∈ headR vd ed, b ≠ 10 := join_ten _ (by
  intro t ht
  simp only [List.mem_cons, List.not_mem_nil, or_false] at ht
  rcases ht with rfl | rfl
  · exact (vname_parts vd hv).2.1
  · exact itoa_ten _ he)
theorem picks_words {zs : List Int} (h : ∀ z ∈ zs, 0 ≤ z ∧ z ≤ 7) : wordsL (picksT zs) = zs.map Lib.itoa := words_join _ (by
  intro t ht
  obtain ⟨z, hz, rfl⟩ := List.mem_map.1 ht
  exact itoa_isw _ (h z hz).1)
theorem picks_ten {zs : List Int} (h : ∀ z ∈ zs, 0 ≤ z ∧ z ≤ 7) : ∀ b ∈ picksT zs, b ≠ 10 := join_ten _ (by
  intro t ht
  obtain ⟨z, hz, rfl⟩ := List.mem_map.1 ht
  exact itoa_ten _ (h z hz).1)
theorem keyT_eq {k i j : Int} (h : isKey k i j = true) : keyT k i j = Lib.join [nameOf k, Lib.itoa i, Lib.itoa j] [32] := by rw [keyT, if_pos h]
theorem isKey_bd {k i j : Int} (h : isKey k i j = true) : (1 ≤ k ∧ k ≤ 6) ∧ (0 ≤ i ∧ i ≤ 3) ∧ 0 ≤ j ∧ j ≤ 15 := of_decide_eq_true h
theorem key_words {k i j : Int} (h : isKey k i j = true) : wordsL (keyT k i j) = [nameOf k, Lib.itoa i, Lib.itoa j] := by
  obtain ⟨h1, h2, h3⟩ := isKey_bd h
  rw [keyT_eq h]
  refine words_join _ ?_
  intro t ht
  simp only [List.mem_cons, List.not_mem_nil, or_false] at ht
  rcases ht with rfl | rfl | rfl
  · exact (key_parts' k h1).2.1
  · exact itoa_isw _ h2.1
  · exact itoa_isw _ h3.1
theorem keyT_ten {k i j : Int} (h : isKey k i j = true) : ∀ b ∈ keyT k i j, b ≠ 10 := by
  obtain ⟨h1, h2, h3⟩ := isKey_bd h
  rw [keyT_eq h]
  refine join_ten _ ?_
  intro t ht
  simp only [List.mem_cons, List.not_mem_nil, or_false] at ht
  rcases ht with rfl | rfl | rfl
  · exact (key_parts' k h1).2.2
  · exact itoa_ten _ h2.1
  · exact itoa_ten _ h3.1
theorem parse_keyT {k i j : Int} (h : isKey k i j = true) : parseL (keyT k i j) = some (k, i, j) := by
  obtain ⟨h1, h2, h3⟩ := isKey_bd h
  rw [parse_three (key_words h), small_itoa (by omega) (by omega), small_itoa (by omega) (by omega), (key_parts' k h1).1]
  simp
def linesR (fs : List FoundI) : List (List UInt8) := fs.flatMap fun f => [keyT f.k f.i f.j, picksT f.zs]
theorem lines_founds : ∀ fs : List FoundI, (∀ f ∈ fs, isKey f.k f.i f.j = true ∧ ∀ z ∈ f.zs, 0 ≤ z ∧ z ≤ 7) → linesL (foundsT fs) = linesR fs
  | [], _ => rfl
  | f :: fs, h => by
    obtain ⟨h1, h2⟩ := h f (by simp)
    have ih := lines_founds fs (fun g hg => h g (by simp [hg]))
    have e : foundsT (f :: fs) = keyT f.k f.i f.j ++ 10 :: (picksT f.zs ++ 10 :: foundsT fs) := by
      show foundT f ++ foundsT fs = _
      rw [foundT]
      simp only [List.append_assoc, List.cons_append, List.nil_append]
    rw [e, lines_hit _ _ (keyT_ten h1), lines_hit _ _ (picks_ten h2), ih]
    rfl
theorem lines_text {vd ed : Int} {fs : List FoundI} (h : OkR vd ed fs) : linesL (textR vd ed fs) = headR vd ed :: linesR fs := by
  have e : textR vd ed fs = headR vd ed ++ 10 :: foundsT fs := by rw [textR]; simp only [List.append_assoc, List.cons_append, List.nil_append]
  rw [e, lines_hit _ _ (head_ten h.v h.e.1), lines_founds]
  intro f hf
  obtain ⟨t, ht⟩ := List.getElem?_of_mem hf
  obtain ⟨p1, p2, p3, p4⟩ := h.fine t f ht
  exact ⟨p1, p4⟩
end Go.Proofs.YtaffaliplmfagaaGreatDoor.Line

set_option linter.unusedVariables false
set_option linter.unusedSimpArgs false
namespace Go.Proofs.YtaffaliplmfagaaGreatDoor.Line
open Go.RowKit Go.Sort Go.Proofs.YtaffaliplmfagaaGreatDoor.Own Go.Proofs.YtaffaliplmfagaaGreatDoor.Conv Go.Proofs.YtaffaliplmfagaaGreatDoor.Calm

set_option maxRecDepth 100000 in
set_option maxHeartbeats 8000000 in
theorem ppicks_of (l : List UInt8) (ys : List Int) (hys : wordsL l = ys.map Lib.itoa) (hy7 : ∀ z ∈ ys, 0 ≤ z ∧ z ≤ 7) (hy0 : ys ≠ []) (hl : l.length ≤ 1000) (w : World) (hT : Door.Tabs w) :
    Calls Tryz.prog 30 #[.string ⟨l.toArray⟩] w fun e w' => Kept No w w' ∧ ∃ v, e = .returned (.tuple #[v, .bool true]) ∧ Seg w' w.heap.size 3 1 v ys.length (vals ys) := by
  have HYS := Lib.hid hys
  have HY7 := Lib.hid hy7
  have HY0 := Lib.hid hy0
  clear hys hy7 hy0
  obtain ⟨i0, hi, hz0, hz1, hz2⟩ := info_parts Pick.info_int
  have hwc := words_count l
  have hW := words_is l (by omega) w
  obtain ⟨s0, hs0⟩ : ∃ s : ByteArray, (⟨l.toArray⟩ : ByteArray) = s := ⟨_, rfl⟩
  rw [hs0] at hW ⊢
  have HW := Lib.hid hW
  have HT := Lib.hid hT
  clear hW hT hs0
  go_enter Tryz.func30, Tryz.ntmps30
  go_wp2_with fail
  refine HW.out.mono ?_
  rintro e w1 ⟨k1, v, rfl, hseg⟩
  obtain ⟨n, hn⟩ : ∃ n, (wordsL l).length = n := ⟨_, rfl⟩
  rw [hn] at hseg hwc
  have HSG := Lib.hid hseg
  have HK1 := Lib.hid k1
  have HN := Lib.hid hn
  have hsz1 := k1.size
  obtain ⟨-, ao, cw, rfl, hc, hm, -, hR⟩ := hseg.rd
  unfold maxLen at hm
  clear hseg k1 hR hn HW
  go_wp2_with fail
  go_loopw [4, 12] (fun o i wr => ∃ k : Nat, k ≤ n ∧ i = .int .i64 k ∧ Seg wr w1.heap.size 3 1 o k (vals (ys.take k)) ∧ Kept No w1 wr) (fun _ i _ => n - (intOf i).toNat)
  case atStart => exact ⟨0, by omega, rfl, Seg.nil _ _ _ _, Kept.refl _ _⟩
  case round =>
    obtain ⟨k, hk, rfl, hs, hK⟩ := hrel
    by_cases hlt : k < n
    · obtain ⟨x, hx⟩ : ∃ x, (wordsL l)[k]? = some x := ⟨_, List.getElem?_eq_getElem (by have := HN.out; omega)⟩
      obtain ⟨z, hz⟩ : ∃ z, ys[k]? = some z := ⟨_, List.getElem?_eq_getElem (by have := HN.out; rw [HYS.out, List.length_map] at this; omega)⟩
      have hxz : x = Lib.itoa z := by rw [HYS.out, List.getElem?_map, hz] at hx; exact (Option.some.inj hx).symm
      have hzz := HY7.out z (List.mem_of_getElem? hz)
      have htk : Hid (ys.take (k + 1) = ys.take k ++ [z]) := Lib.hid (by rw [List.take_add_one, hz]; rfl)
      have hsm7 : smallL x 7 = some z := by rw [hxz]; exact small_itoa hzz (by omega)
      have hxl : x.length ≤ l.length := words_le (List.mem_of_getElem? hx)
      obtain ⟨-, ao', cw', hv, -, -, -, hR⟩ := HSG.out.rd.kept hK (fun _ _ f => f)
      rw [Value.slice.injEq] at hv
      obtain ⟨rfl, -, rfl⟩ := hv
      obtain ⟨g, o, rfl, hg, hcell⟩ := hR (by omega)
      obtain ⟨sx, hsx⟩ : ∃ s : ByteArray, (⟨x.toArray⟩ : ByteArray) = s := ⟨_, rfl⟩
      have cx : wr.cell? ⟨g, o + k, none⟩ = some (.string sx) := hcell k _ (by rw [sv, List.getElem?_map, hx, ← hsx]; rfl)
      have HSM := Lib.hid (small_is x (by omega) 7)
      rw [hsx] at HSM
      rw [hsm7] at HSM
      simp only [Option.getD_some, Option.isSome_some] at HSM
      have HTR := Lib.hid (HT.out.kept (HK1.out.trans hK (fun _ _ f => f)))
      have HKR := Lib.hid hK
      have HS := Lib.hid hs
      clear hx hsx hR hcell hg hs hK hz hxz hsm7
      go_wp2_with fail
      refine (HSM.out _ HTR.out).mono ?_
      rintro e w2 ⟨rfl, k2⟩
      have hs2 := HS.out.kept k2 (fun _ _ f => f)
      have hK2 := HKR.out.trans k2 (fun _ _ f => f)
      have hsz2 := hK2.size
      clear cx k2 HS HKR HTR HSM
      go_wp2_with (at_builtin; refine wpList_append_seg rfl _ _ 46 rfl w1.heap.size 3 i0 (.int .i64 0) 1 8 Tryz.underlying46 hi hz0 hz1 hz2 rfl (by decide) _ _ _ rfl (hs2.kept ((Kept.refl No _).alloc _) (fun _ _ f => f.elim)) ⟨_, 0, none⟩ 1 1 (vals [z]) rfl rfl ?c1 ?c2 ?c3 ?c4 ?c5 ?_)
      case c1 => exact cell_one _ _ _
      case c2 => exact one_ints _
      case c3 => unfold maxLen; omega
      case c4 => omega
      case c5 => simp only [World.size_alloc]; omega
      intro v7 w7 hs7 hg7 hb7
      have hK7 : Kept No w1 w7 := (hK2.alloc _).grown hg7 (fun g hlt hg => by have := (hs2.lt g hg).1; omega)
      have hs8 : Seg w7 w1.heap.size 3 1 v7 (k + 1) (vals (ys.take (k + 1))) := by rw [htk.out, show vals (ys.take k ++ [z]) = vals (ys.take k) ++ vals [z] from by simp only [vals, List.map_append]]; exact hs7
      clear hs7 hg7 hb7 hs2 hK2
      go_wp2_with fail
      go_roundw
      case rel => exact ⟨k + 1, by omega, by go_num, hs8, hK7⟩
      case measure => simp [intOf]; omega
    · obtain rfl : k = n := by omega
      obtain ⟨-, A, C, rfl, -, -, -, -⟩ := id hs.rd
      have hyn : ys.length = k := by have := HN.out; rw [HYS.out, List.length_map] at this; exact this
      rw [List.take_of_length_le (by omega)] at hs
      have hk0 : 0 < k := by have : ys.length ≠ 0 := fun e => HY0.out (List.length_eq_zero_iff.1 e); omega
      have HYN := Lib.hid hyn
      clear hyn
      have HS := Lib.hid (hs.mono (B' := w.heap.size) hsz1)
      have HKF := Lib.hid (HK1.out.trans hK (fun _ _ f => f))
      clear hs hK
      go_wp2_with fail
      go_ret2
      exact ⟨HKF.out, _, rfl, by rw [HYN.out]; exact HS.out⟩

end Go.Proofs.YtaffaliplmfagaaGreatDoor.Line

set_option linter.unusedVariables false
set_option linter.unusedSimpArgs false
namespace Go.Proofs.YtaffaliplmfagaaGreatDoor.Line
open Go.RowKit Go.Sort Go.Proofs.YtaffaliplmfagaaGreatDoor.Own Go.Proofs.YtaffaliplmfagaaGreatDoor.Conv Go.Proofs.YtaffaliplmfagaaGreatDoor.Calm

set_option maxRecDepth 100000 in
set_option maxHeartbeats 8000000 in
theorem head_of (vd ed : Int) (hv : 1 ≤ vd ∧ vd ≤ 4) (he : 0 ≤ ed ∧ ed ≤ 1099511627776) (l : List UInt8) (hlh : l = headR vd ed) (hl : l.length ≤ 1000) (w : World) (hT : Door.Tabs w) :
    Calls Tryz.prog 28 #[.string ⟨l.toArray⟩] w fun e w' => Kept No w w' ∧ e = .returned (.tuple #[.agg #[.int .i64 vd, .int .i64 ed, .slice none 0 0], .bool true]) := by
  have HV := Lib.hid hv
  have hww : wordsL l = [vname (vd - 1).toNat, Lib.itoa ed] := by rw [hlh]; exact head_words hv he.1
  have hvi := (vname_parts vd hv).2.2
  obtain ⟨x, hx⟩ : ∃ x, vname (vd - 1).toNat = x := ⟨_, rfl⟩
  obtain ⟨y, hy⟩ : ∃ y, Lib.itoa ed = y := ⟨_, rfl⟩
  have hsy2 : smallL y 1099511627776 = some ed := by rw [← hy]; exact small_itoa he (by omega)
  rw [hx] at hvi hww
  rw [hy] at hww
  clear hx hy hlh
  have hW := words_is l (by omega)
  obtain ⟨s0, hs0⟩ : ∃ s : ByteArray, (⟨l.toArray⟩ : ByteArray) = s := ⟨_, rfl⟩
  rw [hs0] at hW ⊢
  have HW := Lib.hid hW
  have HT := Lib.hid hT
  have hb0 := Box.new w #[.int .i64 0, .int .i64 0, .slice none 0 0] 24
  have hk0 := (Kept.refl No w).alloc (.cells #[.int .i64 0, .int .i64 0, .slice none 0 0] 24)
  clear hW hT hs0
  go_enter Tryz.func28, Tryz.ntmps28
  go_upto_region 1 with fail
  generalize w.alloc (.cells #[.int .i64 0, .int .i64 0, .slice none 0 0] 24) = w0 at *
  go_wp2_with fail
  refine (HW.out w0).mono ?_
  rintro e w1 ⟨k1, v, rfl, hseg⟩
  have hb1 := hb0.kept k1 id
  have hk1 := hk0.trans k1 (fun _ _ f => f)
  clear k1 hb0 hk0 HW
  obtain ⟨-, ao, cw, rfl, hc, hm, -, hR⟩ := hseg.rd
  unfold maxLen at hm
  have h2 : (wordsL l).length = 2 := by rw [hww]; rfl
  have hxy := hww
  rw [hxy] at hR
  obtain ⟨g, o, rfl, hg, hcell⟩ := hR (by simp)
  obtain ⟨sx, hsx⟩ : ∃ s : ByteArray, (⟨x.toArray⟩ : ByteArray) = s := ⟨_, rfl⟩
  obtain ⟨sy, hsy⟩ : ∃ s : ByteArray, (⟨y.toArray⟩ : ByteArray) = s := ⟨_, rfl⟩
  have x0 : w1.cell? ⟨g, o, none⟩ = some (.string sx) := by rw [← hsx]; exact hcell 0 _ rfl
  have x1 : w1.cell? ⟨g, o + 1, none⟩ = some (.string sy) := by rw [← hsy]; exact hcell 1 _ rfl
  have ly : y.length ≤ 1000000 := by have := words_le (l := l) (p := y) (by rw [hxy]; simp); omega
  have HY := Lib.hid (small_is y ly 1099511627776)
  rw [hsy] at HY
  rw [hsy2] at HY
  simp only [Option.getD_some, Option.isSome_some] at HY
  have HVI : Hid (Lib.idxOfS vnameB sx = vd - 1) := Lib.hid (by rw [← hsx]; exact hvi)
  rw [h2] at hc ⊢
  have q0 : ∀ p : KW w1, p.w.cell? ⟨g, o, none⟩ = some (.string sx) := KW.old x0 hg
  have HB1 := Lib.hid hb1
  have HK1 := Lib.hid hk1
  have HX1 := Lib.hid x1
  have HG := Lib.hid hg
  clear hR hseg hcell h2 hxy hww ly hsx hsy x0 x1 hb1 hk1 hg hsy2 hvi
  go_upto_region 4 with fail
  refine wp_region_dyn ([1, 2, 3] ++ 0 :: 4 :: ([5] ++ [])) (by kernel_rfl) (by kernel_rfl) ?_
  refine dyn_reads _ _ (by kernel_rfl) ?_
  simp only [sel, List.filterMap_cons, List.filterMap_nil, List.getElem?_cons_succ, List.getElem?_cons_zero]
  repeat (show wpQuiet _ _ _ _ (_ :: _) _; go_big_quiet_step (fail))
  refine wpQuiet_nil ?_
  refine dyn_fn 35 #[] rfl rfl rfl (by intro w; go_simp) ?_
  intro p
  refine (pnames_is p.w).mono ?_
  rintro e w2 ⟨rfl, b2, k2⟩
  refine ⟨_, rfl, k2, ?_⟩
  have hk2 := p.h.trans k2 (fun _ _ f => f)
  generalize p.w.heap.size = bn at *
  have B2 := Lib.hid b2
  clear q0 b2 k2
  simp only [Act.put, List.setIfInBounds_toArray, List.set]
  refine dyn_fn 51 #[.slice (some ⟨bn, 0, none⟩) 4 4, .string sx] rfl rfl rfl (by intro w; go_simp) ?_
  intro p2
  refine (vidx_is bn sx p2.w (B2.out.kept p2.h id)).mono ?_
  rintro e w3 ⟨rfl, rfl⟩
  refine ⟨_, rfl, Kept.refl _ _, ?_⟩
  have hk3 := hk2.trans p2.h (fun _ _ f => f)
  rw [HVI.out]
  generalize p2.w = w4 at *
  clear B2 hk2
  simp only [Act.put, List.setIfInBounds_toArray, List.set]
  refine dyn_reads (rest := []) [5] _ (by kernel_rfl) ?_
  simp only [sel, List.filterMap_cons, List.filterMap_nil, List.getElem?_cons_succ, List.getElem?_cons_zero]
  repeat (show wpQuiet _ _ _ _ (_ :: _) _; go_big_quiet_step (fail))
  refine wpQuiet_nil ?_
  refine dyn_nil fun r => ?_
  have hk5 := hk3.trans r.h (fun _ _ f => f)
  generalize r.w = w5 at *
  have hb5 := HB1.out.kept hk5 id
  have hK5 := HK1.out.trans hk5 (fun _ _ f => f)
  have x1 : w5.cell? ⟨g, o + 1, none⟩ = some (.string sy) := (hk5.cell (p := ⟨g, o + 1, none⟩) HG.out id).trans HX1.out
  have HT5 := Lib.hid (HT.out.kept hK5)
  clear hk3 hk5 HB1 HK1 HX1 HG
  go_wp2_with fail
  refine (HY.out _ HT5.out).mono ?_
  rintro e w6 ⟨rfl, k6⟩
  have hb6 := hb5.kept k6 id
  have hk6 := hK5.trans k6 (fun _ _ f => f)
  have hrow := row_kept hk6 (g := w.heap.size) (Nat.le_refl _) #[.int .i64 vd, .int .i64 ed, .slice none 0 0]
  have hb7 := Box.row (cs := #[.int .i64 vd, .int .i64 ed, .slice none 0 0]) hb6
  have HR := Lib.hid hrow
  have HB7 := Lib.hid hb7
  clear hb5 hK5 x1 HT5 HY k6 hk6 hrow hb7
  have hv1 : vd - 1 + 1 = vd := by omega
  have hv0 : 0 ≤ vd - 1 := by omega
  go_wp2_with (refine wpList_store_rowTo rfl 24 _ _ rfl rfl w.heap.size #[.int .i64 vd, .int .i64 ed, .slice none 0 0] (by kernel_rfl) (by kernel_rfl) 24 _ hb6 (by kernel_rfl) (by kernel_rfl) (by kernel_rfl) ?_)
  refine bodyPost_ret (results_row_tmp rfl _ _ w.heap.size 24 #[.int .i64 vd, .int .i64 ed, .slice none 0 0] (0, 0) _ rfl HB7.out Tryz.underlying24 rfl (by kernel_rfl)) rfl ?_
  exact ⟨HR.out, rfl⟩
end Go.Proofs.YtaffaliplmfagaaGreatDoor.Line

set_option linter.unusedVariables false
set_option linter.unusedSimpArgs false
namespace Go.Proofs.YtaffaliplmfagaaGreatDoor.Line
open Go.RowKit Go.Sort Go.Proofs.YtaffaliplmfagaaGreatDoor.Own Go.Proofs.YtaffaliplmfagaaGreatDoor.Conv Go.Proofs.YtaffaliplmfagaaGreatDoor.Calm

theorem linesR_at : ∀ (fs : List FoundI) (j : Nat) (f : FoundI), fs[j]? = some f → (linesR fs)[2 * j]? = some (keyT f.k f.i f.j) ∧ (linesR fs)[2 * j + 1]? = some (picksT f.zs)
  | f :: fs, 0, g, h => by
    obtain rfl : f = g := by simpa using h
    exact ⟨rfl, rfl⟩
  | f :: fs, j + 1, g, h => by
    have := linesR_at fs j g (by simpa using h)
    have e : linesR (f :: fs) = keyT f.k f.i f.j :: picksT f.zs :: linesR fs := rfl
    rw [e, show 2 * (j + 1) = 2 * j + 1 + 1 by omega]
    exact this
theorem linesR_len (fs : List FoundI) : (linesR fs).length = 2 * fs.length := by
  induction fs with
  | nil => rfl
  | cons f fs ih =>
    have e : linesR (f :: fs) = keyT f.k f.i f.j :: picksT f.zs :: linesR fs := rfl
    rw [e, List.length_cons, List.length_cons, ih, List.length_cons]
    omega
/-- What a report's text and rightness say of its found ones. -/
theorem textR_key (vd ed : Int) : ∀ {fs gs : List FoundI}, fs.map keyF = gs.map keyF → foundsT fs = foundsT gs
  | [], [], _ => rfl
  | f :: fs, g :: gs, h => by
    simp only [List.map_cons, List.cons.injEq] at h
    obtain ⟨h1, h2⟩ := h
    have ih := textR_key vd ed h2
    obtain ⟨k, i, j, v, n, zs⟩ := f
    obtain ⟨k2, i2, j2, v2, n2, zs2⟩ := g
    simp only [keyF, Prod.mk.injEq] at h1
    obtain ⟨⟨rfl, rfl, rfl⟩, rfl⟩ := h1
    show foundT _ ++ foundsT fs = foundT _ ++ foundsT gs
    rw [ih]
    rfl
theorem textR_same {vd ed : Int} {fs gs : List FoundI} (h : fs.map keyF = gs.map keyF) : textR vd ed fs = textR vd ed gs := by rw [textR, textR, textR_key vd ed h]
theorem fnd_key {fs gs : List FoundI} (h : fs.map keyF = gs.map keyF) (t : Nat) : keyF (fnd fs t) = keyF (fnd gs t) := by
  have h1 : (fs.map keyF)[t]? = (gs.map keyF)[t]? := by rw [h]
  rw [List.getElem?_map, List.getElem?_map] at h1
  unfold fnd
  cases e1 : fs[t]? with
  | none =>
    cases e2 : gs[t]? with
    | none => rfl
    | some b => rw [e1, e2] at h1; cases h1
  | some a =>
    cases e2 : gs[t]? with
    | none => rw [e1, e2] at h1; cases h1
    | some b => rw [e1, e2] at h1; exact Option.some.inj h1
theorem fine_key {f g : FoundI} (h : keyF f = keyF g) : fineF f = fineF g := by
  obtain ⟨k, i, j, v, n, zs⟩ := f
  obtain ⟨k2, i2, j2, v2, n2, zs2⟩ := g
  simp only [keyF, Prod.mk.injEq] at h
  obtain ⟨⟨rfl, rfl, rfl⟩, rfl⟩ := h
  rfl
theorem less_key {f g f2 g2 : FoundI} (h : keyF f = keyF g) (h2 : keyF f2 = keyF g2) : lessF f f2 = lessF g g2 := by
  obtain ⟨k, i, j, v, n, zs⟩ := f
  obtain ⟨k2, i2, j2, v2, n2, zs2⟩ := g
  obtain ⟨k3, i3, j3, v3, n3, zs3⟩ := f2
  obtain ⟨k4, i4, j4, v4, n4, zs4⟩ := g2
  simp only [keyF, Prod.mk.injEq] at h h2
  obtain ⟨⟨rfl, rfl, rfl⟩, rfl⟩ := h
  obtain ⟨⟨rfl, rfl, rfl⟩, rfl⟩ := h2
  rfl
theorem okK_key {fs gs : List FoundI} (h : fs.map keyF = gs.map keyF) (b : Bool) : ∀ t, okK fs b t = okK gs b t
  | 0 => rfl
  | t + 1 => by
    rw [okK, okK, okK_key h b t, fine_key (fnd_key h t), less_key (fnd_key h (t - 1)) (fnd_key h t)]
theorem okR_same {vd ed : Int} {fs gs : List FoundI} (h : fs.map keyF = gs.map keyF) : okR vd ed fs = okR vd ed gs := by
  have hl : fs.length = gs.length := by have := congrArg List.length h; simpa using this
  rw [okR, okR, hl, okK_key h]
end Go.Proofs.YtaffaliplmfagaaGreatDoor.Line

set_option linter.unusedVariables false
set_option linter.unusedSimpArgs false
namespace Go.Proofs.YtaffaliplmfagaaGreatDoor.Line
open Go.RowKit Go.Sort Go.Proofs.YtaffaliplmfagaaGreatDoor.Own Go.Proofs.YtaffaliplmfagaaGreatDoor.Conv Go.Proofs.YtaffaliplmfagaaGreatDoor.Calm

set_option maxRecDepth 100000 in
set_option maxHeartbeats 8000000 in
theorem paperparse_of (vd ed : Int) (hs : List FoundI) (hok : okR vd ed hs = true) (h12 : hs.length ≤ 12) (h40 : ∀ f ∈ hs, f.zs.length ≤ 40) (l : List UInt8) (hlt : l = textR vd ed hs) (w : World) (hT : Door.Tabs w) :
    Calls Tryz.prog 11 #[.string ⟨l.toArray⟩] w fun e w' => Kept No w w' ∧ ∃ A C gs, e = .returned (.tuple #[.agg #[.int .i64 vd, .int .i64 ed, .slice A gs.length C], .int .i64 ((linesL l).length : Nat), .int .i64 0]) ∧ gs.map keyF = hs.map keyF ∧ FR w' (.slice A gs.length C) gs := by
  have hor := okR_of hok
  have HOR := Lib.hid hor
  have hsmh : SmR hs := ⟨by omega, fun t f hf => by have := h40 f (List.mem_of_getElem? hf); omega⟩
  have hll : l.length ≤ 100000 := by
    have a := headR_len (vd := vd) hor.e
    have b := foundsT_len hor hsmh hs.length
    rw [List.take_length] at b
    rw [hlt, textR]
    simp only [List.length_append, List.length_cons, List.length_nil]
    omega
  have hlines : linesL l = headR vd ed :: linesR hs := by rw [hlt]; exact lines_text hor
  have hnl : (linesL l).length = 2 * hs.length + 1 := by rw [hlines, List.length_cons, linesR_len]
  have HLI := Lib.hid hlines
  have H40 := Lib.hid h40
  have HOKR := Lib.hid hok
  have HLT := Lib.hid hlt
  have HV := Lib.hid hor.v
  have HE := Lib.hid hor.e
  clear h40 hok hlt hlines hor hsmh
  obtain ⟨i0, hi, hz0, hz1, hz2⟩ : ∃ i0, Tryz.prog.info? 48 = some i0 ∧ i0.zero = some (.agg #[.int .i64 0, .int .i64 0, .int .i64 0, .slice none 0 0]) ∧ i0.size = 4 ∧ i0.bytes = 48 := info_parts info_found
  have hW := split_is l (by omega)
  obtain ⟨s0, hs0⟩ : ∃ s : ByteArray, (⟨l.toArray⟩ : ByteArray) = s := ⟨_, rfl⟩
  rw [hs0] at hW ⊢
  have HS0 := Lib.hid hs0
  have HW := Lib.hid hW
  have HT := Lib.hid hT
  have hb0 := Box.new w #[.int .i64 0, .int .i64 0, .slice none 0 0] 24
  have hk0 := (Kept.refl No w).alloc (.cells #[.int .i64 0, .int .i64 0, .slice none 0 0] 24)
  clear hW hT hs0
  go_enter Tryz.func11, Tryz.ntmps11
  go_upto_region 1 with fail
  generalize w.alloc (.cells #[.int .i64 0, .int .i64 0, .slice none 0 0] 24) = w0 at *
  go_wp2_with fail
  refine (HW.out w0).mono ?_
  rintro e w1 ⟨k1, v, rfl, hseg⟩
  have hb1 := hb0.kept k1 id
  have hk1 := hk0.trans k1 (fun _ _ f => f)
  have hblt := hb1.lt
  clear k1 hb0 hk0 HW
  obtain ⟨n, hn⟩ : ∃ n, (linesL l).length = n := ⟨_, rfl⟩
  rw [hn] at hseg hnl
  obtain ⟨-, ao, cw, rfl, hc, hm, -, hR⟩ := hseg.rd
  unfold maxLen at hm
  have HN := Lib.hid hn
  have HNL := Lib.hid hnl
  have HSG := Lib.hid hseg
  have HB1 := Lib.hid hb1
  have HK1 := Lib.hid hk1
  have hn401 : n ≤ 401 := by omega
  have hn1 : 1 ≤ n := by omega
  have hn0 : ((n : Int) == 0) = false := by rw [beq_eq_false_iff_ne]; omega
  clear hn hseg hb1 hk1 hnl
  obtain ⟨g, o, rfl, hg, hcell⟩ := hR (by omega)
  obtain ⟨sp, hsp⟩ : ∃ s : ByteArray, (⟨(headR vd ed).toArray⟩ : ByteArray) = s := ⟨_, rfl⟩
  have x0 : w1.cell? ⟨g, o, none⟩ = some (.string sp) := by have := hcell 0 (.string ⟨(headR vd ed).toArray⟩) (by rw [sv, List.getElem?_map, HLI.out]; rfl); rw [hsp] at this; exact this
  have HH := Lib.hid (head_of vd ed HV.out HE.out _ rfl (by have := headR_len (vd := vd) HE.out; omega) w1 (HT.out.kept HK1.out))
  rw [hsp] at HH
  clear hcell hR hsp
  go_wp2_with fail
  refine HH.out.mono ?_
  rintro e w4 ⟨k4, rfl⟩
  have hb4 := HB1.out.kept k4 id
  have hk4 := HK1.out.trans k4 (fun _ _ f => f)
  have hsz4 := k4.size
  have hs4 := HSG.out.kept k4 (fun _ _ f => f)
  clear x0 hg k4 HH
  go_upto_region 5 with fail
  have hbr := Box.new w4 #[.int .i64 vd, .int .i64 ed, .slice none 0 0] 24
  have hb5 := hb4.alloc (.cells #[.int .i64 vd, .int .i64 ed, .slice none 0 0] 24)
  have hk45 := (Kept.refl No w4).alloc (.cells #[.int .i64 vd, .int .i64 ed, .slice none 0 0] 24)
  have hk5 := hk4.trans hk45 (fun _ _ f => f)
  have hs5 := hs4.kept hk45 (fun _ _ f => f)
  have hrlt := hbr.lt
  generalize w4.alloc (.cells #[.int .i64 vd, .int .i64 ed, .slice none 0 0] 24) = w5 at *
  generalize w4.heap.size = rb at *
  have hZr : w.heap.size < rb := by omega
  have hsl : ∀ q, (Value.slice (some ⟨g, o, none⟩) n cw).ownBlock = some q → q < rb := fun q hq => by have := (HSG.out.lt q hq).2; omega
  have HB5 := Lib.hid hb5
  have HK5 := Lib.hid hk5
  have HS5 := Lib.hid hs5
  have HBR := Lib.hid hbr
  have HSL := Lib.hid hsl
  clear hb4 hk4 hs4 hb5 hk45 hk5 hs5 hbr hsl HB1 HK1 HSG
  go_wp2_with fail
  go_loopw [8] (fun i wr => ∃ (t : Nat) (fs : List FoundI) (fv : Value), t ≤ n ∧ i = .int .i64 t ∧ Hid (t = 2 * fs.length + 1) ∧ Hid (fs.map keyF = (hs.take fs.length).map keyF) ∧ Box wr rb #[.int .i64 vd, .int .i64 ed, fv] 24 ∧ Hid (Seg wr w5.heap.size 48 4 fv fs.length (foundV fs)) ∧ Hid (∀ f ∈ fs, Seg wr w5.heap.size 3 1 f.v f.n (vals f.zs) ∧ f.zs.length ≤ 400) ∧ Kept (Only rb) w5 wr) (fun i _ => n - (intOf i).toNat)
  case atStart => exact ⟨1, [], _, hn1, rfl, Lib.hid rfl, Lib.hid rfl, HBR.out, Lib.hid (Seg.nil _ _ _ _), Lib.hid (fun f hf => by simp at hf), Kept.refl _ _⟩
  case round =>
    clear HBR
    obtain ⟨t, fs, fv, ht, rfl, htf, hkey, hbr, hseg, hrow, hK⟩ := hrel
    have hZ := HB5.out.kept hK (fun e => by have : w.heap.size = rb := e; omega)
    have hKw := HK5.out.trans hK (fun q hq e => by have : q = rb := e; omega)
    have HZ := Lib.hid hZ
    have HKW := Lib.hid hKw
    have HTW := Lib.hid (HT.out.kept hKw)
    have hsr := HS5.out.kept hK (fun q hq e => by have h1 := HSL.out q hq; have h2 : q = rb := e; omega)
    have hszw := hK.size
    clear hZ hKw
    by_cases hlt : t < n
    · obtain ⟨-, ao', cw', hv, -, -, -, hR⟩ := hsr.rd
      rw [Value.slice.injEq] at hv
      obtain ⟨rfl, -, rfl⟩ := hv
      obtain ⟨g', o', hgo, hg, hcell⟩ := hR (by omega)
      simp only [Option.some.injEq, Addr.mk.injEq, and_true] at hgo
      obtain ⟨rfl, rfl⟩ := hgo
      have hjl : fs.length < hs.length := by have := htf.out; have := HNL.out; omega
      obtain ⟨hf, hhf⟩ : ∃ f, hs[fs.length]? = some f := ⟨_, List.getElem?_eq_getElem hjl⟩
      have HHF := Lib.hid hhf
      have HTK : Hid (hs.take (fs.length + 1) = hs.take fs.length ++ [hf]) := Lib.hid (by rw [List.take_add_one, hhf]; rfl)
      obtain ⟨p1, p2, p3, p4⟩ := HOR.out.fine _ _ hhf
      have h40 := H40.out _ (List.mem_of_getElem? hhf)
      obtain ⟨l1, l2⟩ := linesR_at _ _ _ hhf
      have hp : (linesL l)[t]? = some (keyT hf.k hf.i hf.j) := by rw [HLI.out, htf.out]; exact l1
      have hp2 : (linesL l)[t + 1]? = some (picksT hf.zs) := by rw [HLI.out, htf.out]; exact l2
      have ht2 : t + 2 ≤ n := by have := htf.out; have := HNL.out; omega
      obtain ⟨sp, hsp⟩ : ∃ s : ByteArray, (⟨(keyT hf.k hf.i hf.j).toArray⟩ : ByteArray) = s := ⟨_, rfl⟩
      have x0 : wr.cell? ⟨g, o + t, none⟩ = some (.string sp) := by rw [← hsp]; exact hcell t _ (by rw [sv, List.getElem?_map, hp]; rfl)
      have hpi := parse_is (keyT hf.k hf.i hf.j) (by have := keyT_bd p1; omega) wr HTW.out
      rw [parse_keyT p1, hsp] at hpi
      simp only [Option.getD_some, Option.isSome_some] at hpi
      have hpk := fun w hT => ppicks_of (picksT hf.zs) hf.zs (picks_words p4) p4 (fun e => by rw [e] at p2; simp at p2) (by have := picksT_len p4; omega) w hT
      obtain ⟨sq, hsq⟩ : ∃ s : ByteArray, (⟨(picksT hf.zs).toArray⟩ : ByteArray) = s := ⟨_, rfl⟩
      rw [hsq] at hpk
      obtain ⟨zs, hzs⟩ : ∃ zs, hf.zs = zs := ⟨_, rfl⟩
      rw [hzs] at hpk h40 p2
      obtain ⟨zn, hzn⟩ : ∃ n, zs.length = n := ⟨_, rfl⟩
      rw [hzn] at hpk h40
      have HHK : Hid (keyF hf = ((hf.k, hf.i, hf.j), zs)) := Lib.hid (by rw [← hzs]; rfl)
      obtain ⟨fk, hfk⟩ : ∃ x, hf.k = x := ⟨_, rfl⟩
      obtain ⟨fi, hfi⟩ : ∃ x, hf.i = x := ⟨_, rfl⟩
      obtain ⟨fj, hfj⟩ : ∃ x, hf.j = x := ⟨_, rfl⟩
      rw [hfk, hfi, hfj] at HHK hpi
      have HPI := Lib.hid hpi
      have HPK := Lib.hid hpk
      have HZN := Lib.hid hzn
      have HC : Hid (wr.cell? ⟨g, o + (t + 1), none⟩ = some (.string sq)) := Lib.hid (by rw [← hsq]; exact hcell (t + 1) _ (by rw [sv, List.getElem?_map, hp2]; rfl))
      have HG := Lib.hid hg
      have HBR := Lib.hid hbr
      have HKR := Lib.hid hK
      have it : (t : Int) < (n : Int) := by omega
      have it2 : (t : Int) + 1 < (n : Int) := by omega
      have ie : ((t : Int) + 1 == n) = false := by rw [beq_eq_false_iff_ne]; omega
      clear hR hcell hg hp hp2 hsp hsq hpi hpk hbr hK hsr hhf p1 p2 p3 p4 l1 l2 hzs hzn hfk hfi hfj hjl
      go_wp2_with fail
      refine HPI.out.mono ?_
      rintro e w6 ⟨rfl, k6⟩
      have HZ6 := Lib.hid (HZ.out.kept k6 id)
      have HKW6 := Lib.hid (HKW.out.trans k6 (fun _ _ f => f))
      have HK6 := Lib.hid k6
      have HSZ6 := Lib.hid k6.size
      clear x0 k6 HPI HZ HTW
      go_upto_region 11 with fail
      have hkb := Box.new w6 #[.int .i64 fk, .int .i64 fi, .int .i64 fj] 45
      have hka := (Kept.refl No w6).alloc (.cells #[.int .i64 fk, .int .i64 fi, .int .i64 fj] 45)
      have hk67 := HK6.out.trans hka (fun _ _ f => f)
      have HZ7 := Lib.hid (HZ6.out.kept hka id)
      have HKW7 := Lib.hid (HKW6.out.trans hka (fun _ _ f => f))
      have hkl := hkb.lt
      generalize w6.alloc (.cells #[.int .i64 fk, .int .i64 fi, .int .i64 fj] 45) = w7 at *
      have hk6r : wr.heap.size ≤ w6.heap.size := HSZ6.out
      generalize w6.heap.size = kb at *
      have HKB := Lib.hid hkb
      have HK7 := Lib.hid hk67
      have x1 : w7.cell? ⟨g, o + (t + 1), none⟩ = some (.string sq) := (hk67.cell (p := ⟨g, o + (t + 1), none⟩) HG.out id).trans HC.out
      clear hkb hka hk67 HZ6 HKW6 HK6 HSZ6
      go_wp2_with fail
      refine (HPK.out w7 (HT.out.kept HKW7.out)).mono ?_
      rintro e w8 ⟨k8, v8, rfl, hsz8⟩
      have HZ8 := Lib.hid (HZ7.out.kept k8 id)
      have HKW8 := Lib.hid (HKW7.out.trans k8 (fun _ _ f => f))
      have HKB8 := Lib.hid (HKB.out.kept k8 id)
      have HK8 := Lib.hid (HK7.out.trans k8 (fun _ _ f => f))
      have hs78 := k8.size
      clear x1 k8 HPK HZ7 HKW7 HKB HK7
      obtain ⟨-, A, C, rfl, -, -, -, -⟩ := id hsz8.rd
      have hbr8 := HBR.out.kept HK8.out id
      have hkb8 := HKB8.out
      have hseg8 := hseg.out.kept HK8.out (fun _ _ f => f)
      have r2 : w8.cell? ⟨rb, 2, none⟩ = some fv := hbr8.cell 2
      have y0 : w8.cell? ⟨kb, 0, none⟩ = some (.int .i64 fk) := hkb8.cell 0
      have y1 : w8.cell? ⟨kb, 1, none⟩ = some (.int .i64 fi) := hkb8.cell 1
      have y2 : w8.cell? ⟨kb, 2, none⟩ = some (.int .i64 fj) := hkb8.cell 2
      have hfl : fs.length ≤ 401 := by have := htf.out; omega
      have hsw8 : w5.heap.size ≤ w8.heap.size := by omega
      have HZS := Lib.hid (hsz8.mono (B' := w5.heap.size) (by omega))
      have HZL : Hid (zs.length ≤ 400) := Lib.hid (by rw [HZN.out]; omega)
      have HKR8 := Lib.hid (HKR.out.trans HK8.out (fun _ _ f => f.elim))
      have HROW : Hid (∀ f ∈ fs, Seg w8 w5.heap.size 3 1 f.v f.n (vals f.zs) ∧ f.zs.length ≤ 400) := Lib.hid (fun f hf => ⟨(hrow.out f hf).1.kept HK8.out (fun _ _ f => f), (hrow.out f hf).2⟩)
      have HS8 := Lib.hid hseg8
      have HBR8 := Lib.hid hbr8
      have HSEG := Lib.hid (hseg8.kept ((Kept.refl No w8).alloc (.cells #[.int .i64 fk, .int .i64 fi, .int .i64 fj, .slice A zn C] 48)) (fun _ _ => id))
      have hcn := cells_new w8 #[.int .i64 fk, .int .i64 fi, .int .i64 fj, .slice A zn C] 48
      have HCN := Lib.hid hcn
      have H16 : Hid (w5.heap.size ≤ (w8.alloc (.cells #[.int .i64 fk, .int .i64 fi, .int .i64 fj, .slice A zn C] 48)).heap.size) := Lib.hid (by rw [World.size_alloc]; omega)
      clear hsz8 hbr8 hkb8 hseg8 hcn HBR HK8 hseg hrow HKR HC
      go_wp2_with (at_builtin; refine wpList_append_seg rfl _ _ 22 rfl w5.heap.size 48 i0 _ 4 48 Tryz.underlying22 hi hz0 hz1 hz2 rfl (by decide) _ _ _ rfl HSEG.out ⟨_, 0, none⟩ 1 1 [.int .i64 fk, .int .i64 fi, .int .i64 fj, .slice A zn C] rfl rfl HCN.out (by intro u hu; simp only [List.mem_cons, List.not_mem_nil, or_false] at hu; rcases hu with rfl | rfl | rfl | rfl <;> rfl) (by unfold maxLen; omega) (by omega) H16.out ?_)
      intro v9 w9 hs9 hg9 hb9
      obtain ⟨-, A9, C9, rfl, -, -, -, -⟩ := id hs9.rd
      have hkA : Kept (fun q => fv.ownBlock = some q) w8 w9 := ((Kept.refl _ w8).alloc _).grown hg9 (fun q _ h => h)
      have hrb : ¬ fv.ownBlock = some rb := fun e => by have := (HS8.out.lt _ e).1; omega
      have hbr9 := HBR8.out.kept hkA hrb
      have z2 : w9.cell? ⟨rb, 2, none⟩ = some fv := hbr9.cell 2
      have z3 : w9.frozen? ⟨rb, 2, none⟩ = false := hbr9.frozen 2
      have hks : Kept (Only rb) w9 (w9.setCell ⟨rb, 2, none⟩ (.slice A9 (fs.length + 1) C9)) := (Kept.refl _ w9).setCell (p := ⟨rb, 2, none⟩) (fun _ => by exact rfl) _
      have HBN := Lib.hid (bset hbr9 2 (.slice A9 (fs.length + 1) C9))
      have HKN : Hid (Kept (Only rb) w5 (w9.setCell ⟨rb, 2, none⟩ (.slice A9 (fs.length + 1) C9))) := Lib.hid ((HKR8.out.trans hkA (fun q hq e => by have := (HS8.out.lt _ e).1; omega)).trans hks (fun _ _ f => f))
      have HSN : Hid (Seg (w9.setCell ⟨rb, 2, none⟩ (.slice A9 (fs.length + 1) C9)) w5.heap.size 48 4 (.slice A9 (fs.length + 1) C9) (fs.length + 1) (foundV (fs ++ [⟨fk, fi, fj, .slice A zn C, zn, zs⟩]))) := Lib.hid (by
        rw [foundV_app]
        exact hs9.kept hks (fun q hq e => by have h1 := (hs9.lt q hq).1; have h2 : q = rb := e; omega))
      have hone : ∀ (vv : Value) (nn : Nat) (zz : List Int), Seg w8 w5.heap.size 3 1 vv nn (vals zz) → Seg (w9.setCell ⟨rb, 2, none⟩ (.slice A9 (fs.length + 1) C9)) w5.heap.size 3 1 vv nn (vals zz) := fun vv nn zz h => (h.kept hkA (fun q hq e => seg_ne h HS8.out (by decide) q hq e)).kept hks (fun q hq e => by have h1 := (h.lt q hq).1; have h2 : q = rb := e; omega)
      have HRN : Hid (∀ f ∈ fs ++ [(⟨fk, fi, fj, .slice A zn C, zn, zs⟩ : FoundI)], Seg (w9.setCell ⟨rb, 2, none⟩ (.slice A9 (fs.length + 1) C9)) w5.heap.size 3 1 f.v f.n (vals f.zs) ∧ f.zs.length ≤ 400) := Lib.hid (fun f hf => by
        rcases List.mem_append.1 hf with h | h
        · exact ⟨hone _ _ _ (HROW.out f h).1, (HROW.out f h).2⟩
        · rw [List.mem_singleton] at h
          subst h
          exact ⟨hone _ _ _ HZS.out, HZL.out⟩)
      have HTN : Hid (t + 2 = 2 * (fs ++ [(⟨fk, fi, fj, .slice A zn C, zn, zs⟩ : FoundI)]).length + 1) := Lib.hid (by rw [List.length_append, htf.out, List.length_singleton]; omega)
      have HMP : Hid ((fs ++ [(⟨fk, fi, fj, .slice A zn C, zn, zs⟩ : FoundI)]).map keyF = (hs.take (fs ++ [(⟨fk, fi, fj, .slice A zn C, zn, zs⟩ : FoundI)]).length).map keyF) := Lib.hid (by rw [List.length_append, List.length_singleton, HTK.out, List.map_append, List.map_append, hkey.out, List.map_cons, List.map_nil, List.map_cons, List.map_nil, HHK.out]; rfl)
      have HLN : Hid ((fs ++ [(⟨fk, fi, fj, .slice A zn C, zn, zs⟩ : FoundI)]).length = fs.length + 1) := Lib.hid (by rw [List.length_append]; rfl)
      clear hkA hrb hbr9 hks hs9 hg9 hb9 hone HSEG HCN H16 HS8 HBR8 HROW HZS HKR8 r2 y0 y1 y2 htf hkey HTK HHK HHF
      go_wp2_with fail
      go_roundw
      case rel => exact ⟨t + 2, _, _, by omega, by go_num, HTN, HMP, HBN.out, Lib.hid (by rw [HLN.out]; exact HSN.out), HRN, HKN.out⟩
      case measure => simp [intOf]; omega
    · obtain rfl : t = n := by omega
      obtain ⟨-, A, C, rfl, -, -, -, -⟩ := id hseg.out.rd
      have hsm : SmR fs := ⟨by have := htf.out; have := HNL.out; omega, fun j f hf => (hrow.out f (List.mem_of_getElem? hf)).2⟩
      have hfr : FR wr (.slice A fs.length C) fs := ⟨hseg.out.rd, fun f hf => (hrow.out f hf).1.rd⟩
      have hkf : ∀ w', Kept (Only w.heap.size) wr w' → FR w' (.slice A fs.length C) fs := fun w' hk => ⟨(hseg.out.kept hk (fun q hq e => by have h1 := (hseg.out.lt q hq).1; have h2 : q = w.heap.size := e; omega)).rd, fun f hf => ((hrow.out f hf).1.kept hk (fun q hq e => by have h1 := ((hrow.out f hf).1.lt q hq).1; have h2 : q = w.heap.size := e; omega)).rd⟩
      have HMP : Hid (fs.map keyF = hs.map keyF) := Lib.hid (by have := hkey.out; rw [List.take_of_length_le (by have := htf.out; have := HNL.out; omega)] at this; exact this)
      have hokf : okR vd ed fs = true := by rw [okR_same HMP.out]; exact HOKR.out
      have htxf : textR vd ed fs = l := by rw [textR_same HMP.out]; exact HLT.out.symm
      have HKF := Lib.hid hkf
      have hTX : Calls Tryz.prog 14 #[.agg #[.int .i64 vd, .int .i64 ed, .slice A fs.length C]] wr fun e w' => e = .returned (.tuple #[.string s0, .int .i64 0]) ∧ Kept No wr w' := by
        refine (papertext_is vd ed A fs.length C fs wr HTW.out hfr hsm).mono ?_
        rintro e w' ⟨hk, ⟨hh, _⟩ | ⟨_, rfl⟩⟩
        · rw [hokf] at hh; cases hh
        · rw [htxf, HS0.out]; exact ⟨rfl, hk⟩
      obtain ⟨q, hq⟩ : ∃ q, fs.length = q := ⟨_, rfl⟩
      have HQ := Lib.hid hq
      rw [hq] at hbr HKF hTX
      have HTX := Lib.hid hTX
      have HBR := Lib.hid hbr
      have r0 : wr.cell? ⟨rb, 0, none⟩ = some (.int .i64 vd) := hbr.cell 0
      have r1 : wr.cell? ⟨rb, 1, none⟩ = some (.int .i64 ed) := hbr.cell 1
      have r2 : wr.cell? ⟨rb, 2, none⟩ = some (.slice A q C) := hbr.cell 2
      have hcmp : (s0.toList == s0.toList) = true := by simp
      clear hsm hfr hkf hq hbr hsr hseg hrow htf hkey HTW hokf htxf hTX
      go_wp2_with fail
      refine HTX.out.mono ?_
      rintro e w8 ⟨rfl, k8⟩
      have HZ8 := Lib.hid (HZ.out.kept k8 id)
      have HKW8 := Lib.hid (HKW.out.trans k8 (fun _ _ f => f))
      have hbr8 := HBR.out.kept k8 id
      have r0 : w8.cell? ⟨rb, 0, none⟩ = some (.int .i64 vd) := hbr8.cell 0
      have r1 : w8.cell? ⟨rb, 1, none⟩ = some (.int .i64 ed) := hbr8.cell 1
      have r2 : w8.cell? ⟨rb, 2, none⟩ = some (.slice A q C) := hbr8.cell 2
      have hrow : Kept (Only w.heap.size) w8 (w8.setRow w.heap.size #[.int .i64 vd, .int .i64 ed, .slice A q C]) := row_only _ _ _
      have HFE := Lib.hid (HKF.out _ ((k8.mono (fun _ _ f => f.elim)).trans hrow (fun _ _ f => f)))
      clear k8 hbr8 HBR HTX HZ HKW hrow
      go_wp2_with (refine wpList_store_rowTo rfl 24 _ _ rfl rfl w.heap.size #[.int .i64 vd, .int .i64 ed, .slice A q C] (by kernel_rfl) (by kernel_rfl) 24 _ HZ8.out (by kernel_rfl) (by kernel_rfl) (by kernel_rfl) ?_)
      refine bodyPost_ret (results_row_t2 rfl _ _ w.heap.size 24 #[.int .i64 vd, .int .i64 ed, .slice A q C] (0, 0) _ rfl HZ8.out.row Tryz.underlying24 rfl (by kernel_rfl)) rfl ?_
      exact ⟨row_kept HKW8.out (Nat.le_refl _) _, A, C, fs, by rw [HN.out, HQ.out]; rfl, HMP.out, by rw [HQ.out]; exact HFE.out⟩
end Go.Proofs.YtaffaliplmfagaaGreatDoor.Line
