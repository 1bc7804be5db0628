/-
  The statements' fine and May. The statements' May.
-/
import Derived.Test.YtaffaliplmfagaaGreatDoorPap2
import Derived.BigQuiet
import Derived.Test.YtaffaliplmfagaaGreatDoorKeyLess
set_option linter.unusedVariables false
set_option linter.unusedSimpArgs false
namespace Go.Proofs.YtaffaliplmfagaaGreatDoor.Line
open Go.RowKit Go.Sort Go.Proofs.YtaffaliplmfagaaGreatDoor.Own Go.Proofs.YtaffaliplmfagaaGreatDoor.Conv Go.Proofs.YtaffaliplmfagaaGreatDoor.Calm

def fineR (k i j : Int) (zs : List Int) : Bool := isKey k i j && decide ((zs.length : Int) > 0) && allIn zs
theorem fineR_eq {k i j : Int} {zs : List Int} (h : zs.length ≤ 4096) : fineR k i j zs = fineB k i j zs := by
  rw [fineR, fineB, Bool.and_assoc]
  congr 2
  simp only [decide_eq_decide]
  omega

set_option maxRecDepth 100000 in
set_option maxHeartbeats 8000000 in
theorem lawfine_is (k i j : Int) (v : Value) (n : Nat) (zs : List Int) (w : World) (h : Rd w 1 v n (vals zs)) :
    Calls Tryz.prog 17 #[.agg #[.int .i64 k, .int .i64 i, .int .i64 j, v]] w fun e w' => e = .returned (.bool (fineR k i j zs)) ∧ Kept No w w' := by
  have hl : zs.length = n := by have := h.len; rw [vals_len] at this; omega
  obtain ⟨-, ao, cap, rfl, hc, hm, -, hcell⟩ := id h
  unfold maxLen at hm
  obtain ⟨b1, hb1⟩ : ∃ b, isKey k i j = b := ⟨_, rfl⟩
  obtain ⟨b2, hb2⟩ : ∃ b, decide ((n : Int) > 0) = b := ⟨_, rfl⟩
  have hE : fineR k i j zs = (b1 && b2 && allIn zs) := by rw [fineR, hb1, hl, hb2]
  have h1 := fun w => is_is k i j w
  rw [hb1] at h1
  rw [hE]
  have H1 := Lib.hid h1
  have HL := Lib.hid hl
  have HC := Lib.hid hcell
  have hx := Box.new w #[.int .i64 k, .int .i64 i, .int .i64 j, .slice ao n cap] 48
  have hk := (Kept.refl No w).alloc (.cells #[.int .i64 k, .int .i64 i, .int .i64 j, .slice ao n cap] 48)
  have HX := Lib.hid hx
  have HK := Lib.hid hk
  clear hb1 hE h1 h hl hx hk hcell
  go_enter Tryz.func17, Tryz.ntmps17
  go_upto_region 1 with fail
  generalize w.alloc (.cells #[.int .i64 k, .int .i64 i, .int .i64 j, .slice ao n cap] 48) = w0 at *
  have c0 : w0.cell? ⟨w.heap.size, 0, none⟩ = some (.int .i64 k) := HX.out.cell 0
  have c1 : w0.cell? ⟨w.heap.size, 1, none⟩ = some (.int .i64 i) := HX.out.cell 1
  have c2 : w0.cell? ⟨w.heap.size, 2, none⟩ = some (.int .i64 j) := HX.out.cell 2
  go_wp2_with fail
  refine (H1.out _).mono ?_
  rintro e w1 ⟨rfl, k1⟩
  have c3 : w1.cell? ⟨w.heap.size, 3, none⟩ = some (.slice ao n cap) := (HX.out.kept k1 id).cell 3
  have HX1 := Lib.hid (HX.out.kept k1 id)
  have HK1 := Lib.hid (HK.out.trans k1 (fun _ _ f => f))
  clear c0 c1 c2 k1 H1 HX HK
  cases b1
  case' false =>
    obtain ⟨q, hq⟩ : ∃ q, false = q := ⟨_, rfl⟩
    have hqq : Hid ((false && b2 && allIn zs) = (q && allIn zs)) := Lib.hid (by rw [← hq]; rfl)
  case' true =>
    obtain ⟨q, hq⟩ : ∃ q, decide (0 < n) = q := ⟨_, rfl⟩
    have hqq : Hid ((true && b2 && allIn zs) = (q && allIn zs)) := Lib.hid (by rw [← hq, ← hb2]; simp)
  all_goals
    have HQ := Lib.hid hq
    clear hq hb2
    go_wp2_with fail
    go_loopw [3, 4] (fun a i wr => ∃ t : Nat, t ≤ n ∧ i = .int .i64 t ∧ a = .bool (q && allIn (zs.take t)) ∧ Kept No w1 wr) (fun _ i _ => n - (intOf i).toNat)
    case atStart => exact ⟨0, by omega, rfl, by rw [← HQ.out]; simp [allIn], Kept.refl _ _⟩
    case round =>
      clear c3
      obtain ⟨t, ht, rfl, rfl, hK⟩ := hrel
      have c3 : wr.cell? ⟨w.heap.size, 3, none⟩ = some (.slice ao n cap) := (HX1.out.kept hK id).cell 3
      obtain ⟨bx, hbx⟩ : ∃ b, (q && allIn (zs.take t)) = b := ⟨_, rfl⟩
      have HBX := Lib.hid hbx
      rw [hbx]
      clear hbx
      by_cases hlt : t < n
      · obtain ⟨g, o, rfl, hg, hcell⟩ := HC.out (by omega)
        obtain ⟨x, hx⟩ : ∃ x, zs[t]? = some x := ⟨_, List.getElem?_eq_getElem (by have := HL.out; omega)⟩
        have cx : wr.cell? ⟨g, o + t, none⟩ = some (.int .i64 x) := ((HK1.out.trans hK (fun _ _ f => f)).cell (p := ⟨g, o + t, none⟩) hg id).trans (hcell t _ (by rw [vals, List.getElem?_map, hx]; rfl))
        have hn1 : Hid ((q && allIn (zs.take (t + 1))) = (bx && inB x)) := Lib.hid (by rw [← HBX.out, List.take_add_one, hx]; simp [allIn, Bool.and_assoc])
        clear hcell hx
        cases bx with
        | false =>
          have hn2 : Hid ((q && allIn (zs.take (t + 1))) = false) := Lib.hid (by rw [hn1.out]; rfl)
          go_wp2_with fail
          go_roundw
          case rel => exact ⟨t + 1, by omega, by go_num, by rw [hn2.out], hK⟩
          case measure => simp [intOf]; omega
        | true =>
          by_cases h0 : 0 ≤ x
          · by_cases h7 : x ≤ 7
            · have hn2 : Hid ((q && allIn (zs.take (t + 1))) = true) := Lib.hid (by rw [hn1.out]; simp [inB, h0, h7])
              go_wp2_with fail
              go_roundw
              case rel => exact ⟨t + 1, by omega, by go_num, by rw [hn2.out], hK⟩
              case measure => simp [intOf]; omega
            · have hn2 : Hid ((q && allIn (zs.take (t + 1))) = false) := Lib.hid (by rw [hn1.out]; simp [inB]; omega)
              go_wp2_with fail
              go_roundw
              case rel => exact ⟨t + 1, by omega, by go_num, by rw [hn2.out], hK⟩
              case measure => simp [intOf]; omega
          · have hn2 : Hid ((q && allIn (zs.take (t + 1))) = false) := Lib.hid (by rw [hn1.out]; simp [inB]; omega)
            go_wp2_with fail
            go_roundw
            case rel => exact ⟨t + 1, by omega, by go_num, by rw [hn2.out], hK⟩
            case measure => simp [intOf]; omega
      · obtain rfl : t = n := by omega
        have hend : Hid ((q && allIn zs) = bx) := Lib.hid (by rw [← HBX.out, List.take_of_length_le (by have := HL.out; omega)])
        go_wp2_with fail
        go_ret
        exact ⟨by rw [hqq.out, hend.out]; rfl, HK1.out.trans hK (fun _ _ f => f)⟩
end Go.Proofs.YtaffaliplmfagaaGreatDoor.Line

set_option linter.unusedVariables false
set_option linter.unusedSimpArgs false
namespace Go.Proofs.YtaffaliplmfagaaGreatDoor.Line
open Go.RowKit Go.Sort Go.Proofs.YtaffaliplmfagaaGreatDoor.Own Go.Proofs.YtaffaliplmfagaaGreatDoor.Conv Go.Proofs.YtaffaliplmfagaaGreatDoor.Calm

def s1P (vd : Int) (n : Nat) : Bool := if vd = 1 ∨ vd = 4 then ((n : Int) == 0) else true
def s2P (vd : Int) (n : Nat) : Bool := if vd = 2 then decide (0 < n) else true
def s3P (vd ed : Int) : Bool := if vd = 4 then (ed == 0) else true
theorem sw_parts (vd ed : Int) (n : Nat) : swB vd ed n = (s1P vd n && (s2P vd n && s3P vd ed)) := by
  unfold swB s1P s2P s3P
  by_cases h4 : vd = 4
  · subst h4
    simp [Bool.and_comm]
  · by_cases h1 : vd = 1
    · subst h1
      simp
    · by_cases h2 : vd = 2
      · subst h2
        simp
      · simp [h4, h1, h2]

set_option maxRecDepth 100000 in
set_option maxHeartbeats 8000000 in
theorem may_is (vd ed : Int) (ao : Option Addr) (n cap : Nat) (fs : List FoundI) (w : World) (h : FR w (.slice ao n cap) fs) (hp4 : ∀ f ∈ fs, f.zs.length ≤ 4096) :
    Calls Tryz.prog 7 #[.agg #[.int .i64 vd, .int .i64 ed, .slice ao n cap]] w fun e w' => e = .returned (.bool (okR vd ed fs)) ∧ Kept No w w' := by
  obtain ⟨hn, hcap, hm⟩ := h.len
  unfold maxLen at hm
  have hE : okR vd ed fs = okK fs (topB vd ed n && swB vd ed n) fs.length := by
    rw [okR, ← hn]
  have HE := Lib.hid hE
  have HN := Lib.hid hn
  have HP := Lib.hid hp4
  have hbx := Box.new w #[.int .i64 vd, .int .i64 ed, .slice ao n cap] 24
  have hk := (Kept.refl No w).alloc (.cells #[.int .i64 vd, .int .i64 ed, .slice ao n cap] 24)
  have HX := Lib.hid hbx
  have HK := Lib.hid hk
  have H := Lib.hid (h.kept hk)
  clear hn h hE hbx hk hp4
  go_enter Tryz.func7, Tryz.ntmps7
  go_upto_region 1 with fail
  generalize w.alloc (.cells #[.int .i64 vd, .int .i64 ed, .slice ao n cap] 24) = w0 at *
  have c0 : w0.cell? ⟨w.heap.size, 0, none⟩ = some (.int .i64 vd) := HX.out.cell 0
  have c1 : w0.cell? ⟨w.heap.size, 1, none⟩ = some (.int .i64 ed) := HX.out.cell 1
  have c2 : w0.cell? ⟨w.heap.size, 2, none⟩ = some (.slice ao n cap) := HX.out.cell 2
  go_upto_region 2 with fail
  rename_i K hK
  have rest2 : ∀ (ok : Bool) (hok : Hid (okR vd ed fs = okK fs (ok && swB vd ed n) fs.length)) (u9 u10 u11 u12 u13 u14 u15 u16 u17 u18 u19 u20 u21 u22 u23 u24 u25 u26 u27 u28 u29 u30 : Value), K { tmps := #[.agg #[.int .i64 vd, .int .i64 ed, .slice ao n cap], .pointer (some ⟨w.heap.size, 0, none⟩), .bool false, .int .i64 n, .bool ok, undef, .pointer (some ⟨w.heap.size, 2, none⟩), .slice ao n cap, .int .i64 n, u9, u10, u11, u12, u13, u14, u15, u16, u17, u18, u19, u20, u21, u22, u23, u24, u25, u26, u27, u28, u29, u30, undef, undef, undef, undef, undef, undef, undef, undef, undef, undef, undef, undef, undef, undef, undef, undef, undef, undef, undef, undef, undef, undef, undef, undef, undef, undef, undef, undef, undef, undef, undef, undef, undef, undef, undef, undef, undef, undef, undef, undef, undef, undef, undef, undef, undef, undef, undef, undef, undef, undef, undef, undef, undef, undef, undef, undef, undef, undef, undef, undef, undef, undef, undef, undef], defers := [] } w0 := by
    intro ok hok
    intros
    refine hK _ _ ?_
    dsimp only
    clear hK
    go_upto_region 3 with fail
    rename_i K3 hK3 J3 hJ3
    have rest3 : ∀ (ok : Bool) (hok : Hid (okR vd ed fs = okK fs (ok && (s2P vd n && s3P vd ed)) fs.length)) (u9 u10 u11 u12 u13 u14 u15 u16 u17 u18 u19 u20 u21 u22 u23 u24 u25 u26 u27 u28 u29 u30 u31 u32 u33 u34 u35 u36 u37 u38 u39 u40 u41 u42 u43 : Value), K3 { tmps := #[.agg #[.int .i64 vd, .int .i64 ed, .slice ao n cap], .pointer (some ⟨w.heap.size, 0, none⟩), .bool false, .int .i64 n, .bool ok, undef, .pointer (some ⟨w.heap.size, 2, none⟩), .slice ao n cap, .int .i64 n, u9, u10, u11, u12, u13, u14, u15, u16, u17, u18, u19, u20, u21, u22, u23, u24, u25, u26, u27, u28, u29, u30, u31, u32, u33, u34, u35, u36, u37, u38, u39, u40, u41, u42, u43, undef, undef, undef, undef, undef, undef, undef, undef, undef, undef, undef, undef, undef, undef, undef, undef, undef, undef, undef, undef, undef, undef, undef, undef, undef, undef, undef, undef, undef, undef, undef, undef, undef, undef, undef, undef, undef, undef, undef, undef, undef, undef, undef, undef, undef, undef, undef, undef, undef, undef, undef], defers := [] } w0 := by
      intro ok hok
      intros
      refine hK3 _ _ ?_
      dsimp only
      clear hK3
      go_upto_region 5 with fail
      rename_i K5 hK5 J5 hJ5
      have rest5 : ∀ (ok : Bool) (hok : Hid (okR vd ed fs = okK fs (ok && s3P vd ed) fs.length)) (u9 u10 u11 u12 u13 u14 u15 u16 u17 u18 u19 u20 u21 u22 u23 u24 u25 u26 u27 u28 u29 u30 u31 u32 u33 u34 u35 u36 u37 u38 u39 u40 u41 u42 u43 u44 u45 u46 u47 u48 u49 u50 u51 : Value), K5 { tmps := #[.agg #[.int .i64 vd, .int .i64 ed, .slice ao n cap], .pointer (some ⟨w.heap.size, 0, none⟩), .bool false, .int .i64 n, .bool ok, undef, .pointer (some ⟨w.heap.size, 2, none⟩), .slice ao n cap, .int .i64 n, u9, u10, u11, u12, u13, u14, u15, u16, u17, u18, u19, u20, u21, u22, u23, u24, u25, u26, u27, u28, u29, u30, u31, u32, u33, u34, u35, u36, u37, u38, u39, u40, u41, u42, u43, u44, u45, u46, u47, u48, u49, u50, u51, undef, undef, undef, undef, undef, undef, undef, undef, undef, undef, undef, undef, undef, undef, undef, undef, undef, undef, undef, undef, undef, undef, undef, undef, undef, undef, undef, undef, undef, undef, undef, undef, undef, undef, undef, undef, undef, undef, undef, undef, undef, undef, undef], defers := [] } w0 := by
        intro ok hok
        intros
        refine hK5 _ _ ?_
        dsimp only
        clear hK5
        go_upto_region 7 with fail
        rename_i K7 hK7 J7 hJ7
        have rest7 : ∀ (ok : Bool) (hok : Hid (okR vd ed fs = okK fs ok fs.length)) (u9 u10 u11 u12 u13 u14 u15 u16 u17 u18 u19 u20 u21 u22 u23 u24 u25 u26 u27 u28 u29 u30 u31 u32 u33 u34 u35 u36 u37 u38 u39 u40 u41 u42 u43 u44 u45 u46 u47 u48 u49 u50 u51 u52 u53 u54 u55 u56 u57 u58 u59 u60 : Value), K7 { tmps := #[.agg #[.int .i64 vd, .int .i64 ed, .slice ao n cap], .pointer (some ⟨w.heap.size, 0, none⟩), .bool false, .int .i64 n, .bool ok, undef, .pointer (some ⟨w.heap.size, 2, none⟩), .slice ao n cap, .int .i64 n, u9, u10, u11, u12, u13, u14, u15, u16, u17, u18, u19, u20, u21, u22, u23, u24, u25, u26, u27, u28, u29, u30, u31, u32, u33, u34, u35, u36, u37, u38, u39, u40, u41, u42, u43, u44, u45, u46, u47, u48, u49, u50, u51, u52, u53, u54, u55, u56, u57, u58, u59, u60, undef, undef, undef, undef, undef, undef, undef, undef, undef, undef, undef, undef, undef, undef, undef, undef, undef, undef, undef, undef, undef, undef, undef, undef, undef, undef, undef, undef, undef, undef, undef, undef, undef, undef], defers := [] } w0 := by
          intro ok hok
          intros
          refine hK7 _ _ ?_
          dsimp only
          have hok7 := hok
          clear hok hK7 c0 c1
          go_wp2_with fail
          go_loopw [4, 5] (fun m i wr => ∃ t : Nat, t ≤ n ∧ i = .int .i64 t ∧ m = .bool (okK fs ok t) ∧ Hid (Kept No w0 wr)) (fun _ i _ => n - (intOf i).toNat)
          case atStart => exact ⟨0, by omega, rfl, rfl, Lib.hid (Kept.refl _ _)⟩
          case round =>
            clear c2
            obtain ⟨t, ht, rfl, rfl, hK⟩ := hrel
            by_cases hlt : t < n
            · obtain ⟨f, hf⟩ : ∃ f, fs[t]? = some f := ⟨_, List.getElem?_eq_getElem (by have := HN.out; omega)⟩
              have hpk := (H.out.kept hK.out).pk hf
              obtain ⟨g, o, rfl, hg, e0, e1, e2, e3⟩ := (H.out.kept hK.out).at hf
              have hfd := fnd_at hf
              have hf4 := HP.out f (List.mem_of_getElem? hf)
              have x2 : wr.cell? ⟨w.heap.size, 2, none⟩ = some (.slice (some ⟨g, o, none⟩) n cap) := (HX.out.kept hK.out id).cell 2
              obtain ⟨fk, fi, fj, fv, fm, fzs⟩ := f
              obtain ⟨-, A, C, hfv, -, -, -, -⟩ := id hpk
              simp only at hfv e0 e1 e2 e3 hpk hf4
              subst hfv
              obtain ⟨bf, hbf⟩ : ∃ b, fineB fk fi fj fzs = b := ⟨_, rfl⟩
              obtain ⟨bk, hbk⟩ : ∃ b, okK fs ok t = b := ⟨_, rfl⟩
              obtain ⟨bl, hbl⟩ : ∃ b, lessF (fnd fs (t - 1)) ⟨fk, fi, fj, .slice A fm C, fm, fzs⟩ = b := ⟨_, rfl⟩
              have hnx : Hid (okK fs ok (t + 1) = (bk && (bf && (t == 0 || bl)))) := Lib.hid (by rw [okK, hbk, hfd, fineF, hbf, hbl])
              have hfine : Hid (Calls Tryz.prog 17 #[.agg #[.int .i64 fk, .int .i64 fi, .int .i64 fj, .slice A fm C]] wr fun e w'' => e = .returned (.bool bf) ∧ Kept No wr w'') := Lib.hid (by rw [← hbf, ← fineR_eq hf4]; exact lawfine_is fk fi fj _ fm fzs wr hpk)
              rw [hbk]
              have HF := Lib.hid hf
              clear hpk hf hf4
              cases bk with
              | false =>
                by_cases h0 : t = 0
                · subst h0
                  simp only [Int.natCast_zero]
                  go_wp2_with fail
                  go_roundw
                  case rel => exact ⟨1, by omega, by go_num, by rw [hnx.out]; rfl, hK⟩
                  case measure => simp [intOf]; omega
                · have ht1 : 0 < t := by omega
                  go_upto_region 14 with fail
                  refine wp_region_calm (by kernel_rfl) (by kernel_rfl) ?_
                  repeat (go_big_quiet_step (fail))
                  refine wpQuiet_nil ?_
                  rintro _ ⟨p, rfl⟩
                  have hkn := Lib.hid (hK.out.trans p.h (fun _ _ f => f))
                  generalize p.w = wz at *
                  clear x2 e0 e1 e2 e3
                  go_wp2_with fail
                  go_roundw
                  case rel => exact ⟨t + 1, by omega, by go_num, by rw [hnx.out]; rfl, hkn⟩
                  case measure => simp [intOf]; omega
              | true =>
                go_upto_region 12 with fail
                go_wp2_with fail
                refine hfine.out.mono ?_
                rintro e w2 ⟨rfl, k2⟩
                have hk1 := Lib.hid k2
                have hk2 := Lib.hid (hK.out.trans k2 (fun _ _ f => f))
                have z2 : w2.cell? ⟨w.heap.size, 2, none⟩ = some (.slice (some ⟨g, o, none⟩) n cap) := (HX.out.kept hk2.out id).cell 2
                have hg2 : g < w2.heap.size := Nat.lt_of_lt_of_le hg k2.size
                have q0 := KW.old ((k2.cell (p := ⟨g, o + t * 4, none⟩) hg id).trans e0) hg2
                have q1 := KW.old ((k2.cell (p := ⟨g, o + t * 4 + 1, none⟩) hg id).trans e1) hg2
                have q2 := KW.old ((k2.cell (p := ⟨g, o + t * 4 + 2, none⟩) hg id).trans e2) hg2
                clear x2 e0 e1 e2 e3 k2
                by_cases h0 : t = 0
                · subst h0
                  simp only [Int.natCast_zero]
                  have hnx2 : Hid (okK fs ok (0 + 1) = bf) := Lib.hid (by rw [hnx.out]; simp)
                  clear q0 q1 q2
                  go_wp2_with fail
                  go_roundw
                  case rel => exact ⟨1, by omega, by go_num, by rw [← hnx2.out], hk2⟩
                  case measure => simp [intOf]; omega
                · obtain ⟨s, rfl⟩ : ∃ s, t = s + 1 := ⟨t - 1, by omega⟩
                  obtain ⟨f2, hf2⟩ : ∃ f, fs[s]? = some f := ⟨_, List.getElem?_eq_getElem (by have := HN.out; omega)⟩
                  obtain ⟨g', o', hgo, hg', d0, d1, d2, d3⟩ := (H.out.kept hk2.out).at hf2
                  obtain ⟨rfl, rfl⟩ : g = g' ∧ o = o' := by
                    simp only [Option.some.injEq, Addr.mk.injEq, and_true] at hgo
                    exact hgo
                  clear d3
                  simp only [Int.natCast_add, Int.natCast_one]
                  have hs0 : (s : Int) + 1 - 1 = (s : Int) := by omega
                  have hs1 : (s : Int) + 1 > 0 := by omega
                  have hs2 : (0 : Int) ≤ s := by omega
                  have hs3 : (s : Int) < n := by omega
                  have hs4 : (s : Int) ≤ 9223372036854775807 := by omega
                  have y0 := KW.old d0 hg'
                  have y1 := KW.old d1 hg'
                  have y2 := KW.old d2 hg'
                  have x2 : ∀ p : KW w2, p.w.cell? ⟨w.heap.size, 2, none⟩ = some (.slice (some ⟨g, o, none⟩) n cap) := KW.old z2 (HX.out.kept hk2.out id).lt
                  rw [Nat.add_sub_cancel, fnd_at hf2] at hbl
                  obtain ⟨k2, i2, j2, v2, m2, zs2⟩ := f2
                  simp only at y0 y1 y2
                  have hless : Hid (∀ p : KW w2, Calls Tryz.prog 18 #[.agg #[.int .i64 k2, .int .i64 i2, .int .i64 j2], .agg #[.int .i64 fk, .int .i64 fi, .int .i64 fj]] p.w fun e w'' => e = .returned (.bool bl) ∧ Kept No p.w w'') := Lib.hid (fun p => by rw [← hbl]; exact refless_is k2 i2 j2 fk fi fj p.w)
                  have hnx2 : Hid (okK fs ok (s + 1 + 1) = (bf && bl)) := Lib.hid (by rw [hnx.out]; simp)
                  clear hf2 hbl d0 d1 d2 hgo hnx h0 hbf hbk hfd z2
                  go_upto_region 14 with fail
                  cases bf with
                  | false =>
                    refine wp_region_calm (by kernel_rfl) (by kernel_rfl) ?_
                    repeat (go_big_quiet_step (fail))
                    refine wpQuiet_nil ?_
                    rintro _ ⟨p, rfl⟩
                    have hkn := Lib.hid (hk2.out.trans p.h (fun _ _ f => f))
                    generalize p.w = wz at *
                    clear y0 y1 y2 q0 q1 q2 x2
                    go_wp2_with fail
                    go_roundw
                    case rel => exact ⟨s + 1 + 1, by omega, by go_num, by rw [hnx2.out]; rfl, hkn⟩
                    case measure => simp [intOf]; omega
                  | true =>
                    refine wp_region_calm (by kernel_rfl) (by kernel_rfl) ?_
                    repeat (go_big_quiet_step ((go_at_call 18; with_reducible exact calls_of _ (hless.out _))))
                    refine wpQuiet_nil ?_
                    rintro _ ⟨p, rfl⟩
                    have hkn := Lib.hid (hk2.out.trans p.h (fun _ _ f => f))
                    generalize p.w = wz at *
                    clear y0 y1 y2 q0 q1 q2 x2
                    go_wp2_with fail
                    go_roundw
                    case rel => exact ⟨s + 1 + 1, by omega, by go_num, by rw [hnx2.out]; rfl, hkn⟩
                    case measure => simp [intOf]; omega
            · obtain rfl : t = n := by omega
              have hend : Hid (okR vd ed fs = okK fs ok t) := Lib.hid (by rw [hok7.out, ← HN.out])
              have hkf := Lib.hid (HK.out.trans hK.out (fun _ _ f => f))
              generalize okK fs ok t = bz at *
              go_wp2_with fail
              go_ret
              exact ⟨by rw [hend.out]; rfl, hkf.out⟩
        have HR7 := Lib.hid rest7
        clear rest7 hK7
        by_cases v4 : vd = 4
        · have HF : Hid (okR vd ed fs = okK fs (ok && (ed == 0)) fs.length) := Lib.hid (by rw [hok.out, s3P, if_pos v4])
          subst v4
          clear hok
          generalize hz0 : (ed == 0) = z0 at *
          cases ok
          all_goals
            go_wp2_with fail
            exact HR7.out _ HF _ _ _ _ _ _ _ _ _ _ _ _ _ _ _ _ _ _ _ _ _ _ _ _ _ _ _ _ _ _ _ _ _ _ _ _ _ _ _ _ _ _ _ _ _ _ _ _ _ _ _ _
        · have HF : Hid (okR vd ed fs = okK fs ok fs.length) := Lib.hid (by rw [hok.out, s3P, if_neg v4, Bool.and_true])
          have hq : (vd == 4) = false := by simpa using v4
          clear hok
          go_wp2_with fail
          exact HR7.out _ HF _ _ _ _ _ _ _ _ _ _ _ _ _ _ _ _ _ _ _ _ _ _ _ _ _ _ _ _ _ _ _ _ _ _ _ _ _ _ _ _ _ _ _ _ _ _ _ _ _ _ _ _
      have HR5 := Lib.hid rest5
      clear rest5 hK5
      by_cases v4 : vd = 2
      · have HF : Hid (okR vd ed fs = okK fs ((ok && decide (0 < n)) && s3P vd ed) fs.length) := Lib.hid (by rw [hok.out, s2P, if_pos v4, Bool.and_assoc])
        subst v4
        clear hok
        cases ok
        all_goals
          go_wp2_with fail
          exact HR5.out _ HF _ _ _ _ _ _ _ _ _ _ _ _ _ _ _ _ _ _ _ _ _ _ _ _ _ _ _ _ _ _ _ _ _ _ _ _ _ _ _ _ _ _ _
      · have HF : Hid (okR vd ed fs = okK fs (ok && s3P vd ed) fs.length) := Lib.hid (by rw [hok.out, s2P, if_neg v4, Bool.true_and])
        have hq : (vd == 2) = false := by simpa using v4
        clear hok
        go_wp2_with fail
        exact HR5.out _ HF _ _ _ _ _ _ _ _ _ _ _ _ _ _ _ _ _ _ _ _ _ _ _ _ _ _ _ _ _ _ _ _ _ _ _ _ _ _ _ _ _ _ _
    have HR3 := Lib.hid rest3
    clear rest3 hK3
    have hsw := sw_parts vd ed n
    have HSW := Lib.hid hsw
    clear hsw
    by_cases v4 : vd = 4
    · have HF : Hid (okR vd ed fs = okK fs ((ok && ((n : Int) == 0)) && (s2P vd n && s3P vd ed)) fs.length) := Lib.hid (by rw [hok.out, HSW.out, s1P, if_pos (.inr v4), Bool.and_assoc])
      have hq : (vd == 1) = false := by rw [v4]; rfl
      subst v4
      clear hok hq HSW
      generalize hz0 : ((n : Int) == 0) = z0 at *
      cases ok
      all_goals
        go_wp2_with fail
        exact HR3.out _ HF _ _ _ _ _ _ _ _ _ _ _ _ _ _ _ _ _ _ _ _ _ _ _ _ _ _ _ _ _ _ _ _ _ _ _
    · by_cases v1 : vd = 1
      · have HF : Hid (okR vd ed fs = okK fs ((ok && ((n : Int) == 0)) && (s2P vd n && s3P vd ed)) fs.length) := Lib.hid (by rw [hok.out, HSW.out, s1P, if_pos (.inl v1), Bool.and_assoc])
        subst v1
        clear hok HSW
        generalize hz0 : ((n : Int) == 0) = z0 at *
        cases ok
        all_goals
          go_wp2_with fail
          exact HR3.out _ HF _ _ _ _ _ _ _ _ _ _ _ _ _ _ _ _ _ _ _ _ _ _ _ _ _ _ _ _ _ _ _ _ _ _ _
      · have HF : Hid (okR vd ed fs = okK fs (ok && (s2P vd n && s3P vd ed)) fs.length) := Lib.hid (by rw [hok.out, HSW.out, s1P, if_neg (by omega), Bool.true_and])
        have hq1 : (vd == 1) = false := by simpa using v1
        have hq4 : (vd == 4) = false := by simpa using v4
        clear hok HSW
        go_wp2_with fail
        exact HR3.out _ HF _ _ _ _ _ _ _ _ _ _ _ _ _ _ _ _ _ _ _ _ _ _ _ _ _ _ _ _ _ _ _ _ _ _ _
  have HR2 := Lib.hid rest2
  clear rest2 hK
  have hB : ∀ b, topB vd ed n = b → Hid (okR vd ed fs = okK fs (b && swB vd ed n) fs.length) := fun b h => Lib.hid (by rw [HE.out, h])
  have HB := Lib.hid hB
  clear hB
  by_cases t1 : 1 ≤ vd
  · by_cases t2 : vd ≤ 4
    · by_cases t3 : 0 ≤ ed
      · by_cases t4 : ed ≤ 1099511627776
        · by_cases t5 : (n : Int) ≤ 255
          · have HF := HB.out true (by simp [topB]; omega)
            go_wp2_with fail
            exact HR2.out _ HF _ _ _ _ _ _ _ _ _ _ _ _ _ _ _ _ _ _ _ _ _ _
          · have HF := HB.out false (by simp [topB]; omega)
            go_wp2_with fail
            exact HR2.out _ HF _ _ _ _ _ _ _ _ _ _ _ _ _ _ _ _ _ _ _ _ _ _
        · have HF := HB.out false (by simp [topB]; omega)
          go_wp2_with fail
          exact HR2.out _ HF _ _ _ _ _ _ _ _ _ _ _ _ _ _ _ _ _ _ _ _ _ _
      · have HF := HB.out false (by simp [topB]; omega)
        go_wp2_with fail
        exact HR2.out _ HF _ _ _ _ _ _ _ _ _ _ _ _ _ _ _ _ _ _ _ _ _ _
    · have HF := HB.out false (by simp [topB]; omega)
      go_wp2_with fail
      exact HR2.out _ HF _ _ _ _ _ _ _ _ _ _ _ _ _ _ _ _ _ _ _ _ _ _
  · have HF := HB.out false (by simp [topB]; omega)
    go_wp2_with fail
    exact HR2.out _ HF _ _ _ _ _ _ _ _ _ _ _ _ _ _ _ _ _ _ _ _ _ _
end Go.Proofs.YtaffaliplmfagaaGreatDoor.Line
