/-
  A report in memory; paper.Check.
-/
import Derived.Test.YtaffaliplmfagaaGreatDoorPap1
set_option linter.unusedVariables false
set_option linter.unusedSimpArgs false
namespace Go.Proofs.YtaffaliplmfagaaGreatDoor.Line
open Go.RowKit Go.Sort Go.Proofs.YtaffaliplmfagaaGreatDoor.Own Go.Proofs.YtaffaliplmfagaaGreatDoor.Conv Go.Proofs.YtaffaliplmfagaaGreatDoor.Calm

/-- Something found: a key, and picks. -/
structure FoundI where
  k : Int
  i : Int
  j : Int
  v : Value
  n : Nat
  zs : List Int
def foundC (f : FoundI) : List Value := [.int .i64 f.k, .int .i64 f.i, .int .i64 f.j, f.v]
def foundV (fs : List FoundI) : List Value := fs.flatMap foundC
theorem foundV_len (fs : List FoundI) : (foundV fs).length = fs.length * 4 := by
  induction fs with
  | nil => rfl
  | cons f fs ih =>
    rw [foundV, List.flatMap_cons, List.length_append, ← foundV, ih]
    simp [foundC]
    omega
theorem foundV_app (a b : List FoundI) : foundV (a ++ b) = foundV a ++ foundV b := by simp [foundV]
theorem foundV_at : ∀ (fs : List FoundI) (t : Nat) (f : FoundI), fs[t]? = some f →
    (foundV fs)[t * 4]? = some (.int .i64 f.k) ∧ (foundV fs)[t * 4 + 1]? = some (.int .i64 f.i) ∧ (foundV fs)[t * 4 + 2]? = some (.int .i64 f.j) ∧ (foundV fs)[t * 4 + 3]? = some f.v
  | [], t, f, h => by simp at h
  | g :: fs, 0, f, h => by
    simp only [List.getElem?_cons_zero, Option.some.injEq] at h
    subst h
    exact ⟨rfl, rfl, rfl, rfl⟩
  | g :: fs, t + 1, f, h => by
    obtain ⟨h0, h1, h2, h3⟩ := foundV_at fs t f (by simpa using h)
    have e : ∀ q, (foundV (g :: fs))[(t + 1) * 4 + q]? = (foundV fs)[t * 4 + q]? := fun q => by
      rw [foundV, List.flatMap_cons, List.getElem?_append_right (by simp [foundC]; omega), ← foundV]
      congr 1
      simp [foundC]
      omega
    exact ⟨(e 0).trans h0, (e 1).trans h1, (e 2).trans h2, (e 3).trans h3⟩
/-- What was found, as it lies. -/
structure FR (w : World) (u : Value) (fs : List FoundI) : Prop where
  rd : Rd w 4 u fs.length (foundV fs)
  row : ∀ f ∈ fs, Rd w 1 f.v f.n (vals f.zs)
theorem FR.kept {w w' : World} {u : Value} {fs : List FoundI} (h : FR w u fs) (hk : Kept No w w') : FR w' u fs := ⟨h.rd.kept hk (fun _ _ => id), fun f hf => (h.row f hf).kept hk (fun _ _ => id)⟩
theorem FR.nil (w : World) : FR w (.slice none 0 0) [] := ⟨Rd.nil w 4, fun f hf => by simp at hf⟩
theorem FR.len {w : World} {ao : Option Addr} {n cap : Nat} {fs : List FoundI} (h : FR w (.slice ao n cap) fs) : n = fs.length ∧ n ≤ cap ∧ cap ≤ maxLen := by
  obtain ⟨_, ao', cap', hv, h1, h2, _, _⟩ := h.rd
  cases hv
  exact ⟨rfl, h1, h2⟩
theorem FR.at {w : World} {ao : Option Addr} {n cap : Nat} {fs : List FoundI} (h : FR w (.slice ao n cap) fs) {t : Nat} {f : FoundI} (hf : fs[t]? = some f) :
    ∃ g o, ao = some ⟨g, o, none⟩ ∧ g < w.heap.size ∧ w.cell? ⟨g, o + t * 4, none⟩ = some (.int .i64 f.k) ∧ w.cell? ⟨g, o + t * 4 + 1, none⟩ = some (.int .i64 f.i) ∧ w.cell? ⟨g, o + t * 4 + 2, none⟩ = some (.int .i64 f.j) ∧ w.cell? ⟨g, o + t * 4 + 3, none⟩ = some f.v := by
  obtain ⟨_, ao', cap', hv, _, _, _, hc⟩ := h.rd
  cases hv
  have hlt := (List.getElem?_eq_some_iff.1 hf).1
  obtain ⟨g, o, rfl, hg, hcell⟩ := hc (by omega)
  obtain ⟨h0, h1, h2, h3⟩ := foundV_at fs t f hf
  exact ⟨g, o, rfl, hg, hcell _ _ h0, hcell _ _ h1, hcell _ _ h2, hcell _ _ h3⟩
theorem FR.pk {w : World} {u : Value} {fs : List FoundI} (h : FR w u fs) {t : Nat} {f : FoundI} (hf : fs[t]? = some f) : Rd w 1 f.v f.n (vals f.zs) := h.row f (List.mem_of_getElem? hf)

/-- May a report be? -/
def fnd (fs : List FoundI) (t : Nat) : FoundI := fs[t]?.getD ⟨0, 0, 0, .slice none 0 0, 0, []⟩
theorem fnd_at {fs : List FoundI} {t : Nat} {f : FoundI} (h : fs[t]? = some f) : fnd fs t = f := by rw [fnd, h]; rfl
def fineF (f : FoundI) : Bool := fineB f.k f.i f.j f.zs
def lessF (f g : FoundI) : Bool := lessB f.k f.i f.j g.k g.i g.j
def topB (vd e : Int) (n : Nat) : Bool := decide (1 ≤ vd ∧ vd ≤ 4) && (decide (0 ≤ e ∧ e ≤ 1099511627776) && decide ((n : Int) ≤ 255))
def swB (vd e : Int) (n : Nat) : Bool := if vd = 4 then (e == 0) && ((n : Int) == 0) else if vd = 1 then ((n : Int) == 0) else if vd = 2 then decide (0 < n) else true
def okK (fs : List FoundI) (b : Bool) : Nat → Bool
  | 0 => b
  | t + 1 => okK fs b t && (fineF (fnd fs t) && (t == 0 || lessF (fnd fs (t - 1)) (fnd fs t)))
def okR (vd e : Int) (fs : List FoundI) : Bool := okK fs (topB vd e fs.length && swB vd e fs.length) fs.length
def chkR (vd e : Int) (fs : List FoundI) : Int := if okR vd e fs = true then 0 else 3

set_option maxRecDepth 100000 in
set_option maxHeartbeats 8000000 in
theorem papercheck_is (vd ed : Int) (ao : Option Addr) (n cap : Nat) (fs : List FoundI) (w : World) (h : FR w (.slice ao n cap) fs) :
    Calls Tryz.prog 26 #[.agg #[.int .i64 vd, .int .i64 ed, .slice ao n cap]] w fun e w' => e = .returned (.int .i64 (chkR vd ed fs)) ∧ Kept No w w' := by
  obtain ⟨hn, hcap, hm⟩ := h.len
  unfold maxLen at hm
  obtain ⟨x1, hx1⟩ : ∃ b, decide (1 ≤ vd ∧ vd ≤ 4) = b := ⟨_, rfl⟩
  obtain ⟨x2, hx2⟩ : ∃ b, decide (0 ≤ ed ∧ ed ≤ 1099511627776) = b := ⟨_, rfl⟩
  obtain ⟨x3, hx3⟩ : ∃ b, decide ((n : Int) ≤ 255) = b := ⟨_, rfl⟩
  obtain ⟨b0, hb0⟩ : ∃ b, swB vd ed n = b := ⟨_, rfl⟩
  have hE : okR vd ed fs = okK fs (x1 && (x2 && x3) && b0) fs.length := by
    rw [okR, topB, ← hn, hx1, hx2, hx3, hb0]
  have HE := Lib.hid hE
  have HB0 := Lib.hid hb0
  have L1 := Lib.hid (fun w => by have := in_is vd 1 4 w; rw [hx1] at this; exact this)
  have L2 := Lib.hid (fun w => by have := in_is ed 0 1099511627776 w; rw [hx2] at this; exact this)
  have HN := Lib.hid hn
  have hbx := Box.new w #[.int .i64 vd, .int .i64 ed, .slice ao n cap] 24
  have hk := (Kept.refl No w).alloc (.cells #[.int .i64 vd, .int .i64 ed, .slice ao n cap] 24)
  have HX := Lib.hid hbx
  have HK := Lib.hid hk
  have H := Lib.hid (h.kept hk)
  clear hn h hE hb0 hx1 hx2 hbx hk
  go_enter Tryz.func26, Tryz.ntmps26
  go_upto_region 1 with fail
  generalize w.alloc (.cells #[.int .i64 vd, .int .i64 ed, .slice ao n cap] 24) = w0 at *
  have c0 : w0.cell? ⟨w.heap.size, 0, none⟩ = some (.int .i64 vd) := HX.out.cell 0
  have c1 : w0.cell? ⟨w.heap.size, 1, none⟩ = some (.int .i64 ed) := HX.out.cell 1
  have c2 : w0.cell? ⟨w.heap.size, 2, none⟩ = some (.slice ao n cap) := HX.out.cell 2
  go_upto_region 2 with fail
  rename_i K hK
  have rest2 : ∀ (ok : Bool) (hok : Hid (okR vd ed fs = okK fs (ok && b0) fs.length)) (u10 u11 u12 u13 u14 u15 u16 u17 u18 u19 u20 u21 : Value), K { tmps := #[.agg #[.int .i64 vd, .int .i64 ed, .slice ao n cap], .pointer (some ⟨w.heap.size, 0, none⟩), .int .i64 0, .int .i64 n, .bool ok, undef, undef, .pointer (some ⟨w.heap.size, 2, none⟩), .slice ao n cap, .int .i64 n, u10, u11, u12, u13, u14, u15, u16, u17, u18, u19, u20, u21, undef, undef, undef, undef, undef, undef, undef, undef, undef, undef, undef, undef, undef, undef, undef, undef, undef, undef, undef, undef, undef, undef, undef, undef, undef, undef, undef, undef, undef, undef, undef, undef, undef, undef, undef, undef, undef, undef, undef, undef, undef, undef, undef, undef, undef, undef, undef, undef, undef, undef, undef, undef, undef, undef, undef, undef], defers := [] } w0 := by
    intro ok hok
    intros
    refine hK _ _ ?_
    dsimp only
    clear hK L1 L2 HE
    go_upto_region 3 with fail
    rename_i K1 hK1 K2 hK2
    have rest3 : ∀ (ok' : Bool) (hok' : Hid (okR vd ed fs = okK fs ok' fs.length)) (u10 u11 u12 u13 u14 u15 u16 u17 u18 u19 u20 u21 u22 u23 u24 u25 u26 u27 u28 u29 u30 u31 u32 u33 u34 u35 u36 u37 u38 u39 u40 u41 u42 u43 u44 u45 : Value), K1 { tmps := #[.agg #[.int .i64 vd, .int .i64 ed, .slice ao n cap], .pointer (some ⟨w.heap.size, 0, none⟩), .int .i64 0, .int .i64 n, .bool ok', undef, undef, .pointer (some ⟨w.heap.size, 2, none⟩), .slice ao n cap, .int .i64 n, u10, u11, u12, u13, u14, u15, u16, u17, u18, u19, u20, u21, u22, u23, u24, u25, u26, u27, u28, u29, u30, u31, u32, u33, u34, u35, u36, u37, u38, u39, u40, u41, u42, u43, u44, u45, undef, undef, undef, undef, undef, undef, undef, undef, undef, undef, undef, undef, undef, undef, undef, undef, undef, undef, undef, undef, undef, undef, undef, undef, undef, undef, undef, undef, undef, undef, undef, undef], defers := [] } w0 := by
      clear hK2 hok
      intro ok hok
      intros
      refine hK1 _ _ ?_
      dsimp only
      clear hK1 c0 c1
      go_wp2_with fail
      go_loopw [4, 49] (fun m i wr => ∃ t : Nat, t ≤ n ∧ i = .int .i64 t ∧ m = .bool (okK fs ok t) ∧ Hid (Kept No w0 wr)) (fun _ i _ => n - (intOf i).toNat)
      case atStart => exact ⟨0, by omega, rfl, rfl, Lib.hid (Kept.refl _ _)⟩
      case round =>
        clear c2
        obtain ⟨t, ht, rfl, rfl, hK⟩ := hrel
        by_cases hlt : t < n
        · obtain ⟨f, hf⟩ : ∃ f, fs[t]? = some f := ⟨_, List.getElem?_eq_getElem (by have := HN.out; omega)⟩
          have hpk := (H.out.kept hK.out).pk hf
          obtain ⟨g, o, rfl, hg, e0, e1, e2, e3⟩ := (H.out.kept hK.out).at hf
          have hfd := fnd_at hf
          obtain ⟨fk, fi, fj, fv, fm, fzs⟩ := f
          obtain ⟨-, A, C, hfv, -, -, -, -⟩ := id hpk
          simp only at hfv e0 e1 e2 e3 hpk
          subst hfv
          obtain ⟨bf, hbf⟩ : ∃ b, fineB fk fi fj fzs = b := ⟨_, rfl⟩
          obtain ⟨bk, hbk⟩ : ∃ b, okK fs ok t = b := ⟨_, rfl⟩
          obtain ⟨bl, hbl⟩ : ∃ b, lessF (fnd fs (t - 1)) ⟨fk, fi, fj, .slice A fm C, fm, fzs⟩ = b := ⟨_, rfl⟩
          have hnx : Hid (okK fs ok (t + 1) = (bk && (bf && (t == 0 || bl)))) := Lib.hid (by rw [okK, hbk, hfd, fineF, hbf, hbl])
          have hfine : Hid (∀ w', Kept No wr w' → Calls Tryz.prog 47 #[.agg #[.int .i64 fk, .int .i64 fi, .int .i64 fj, .slice A fm C]] w' fun e w'' => e = .returned (.bool bf) ∧ Kept No w' w'') := Lib.hid (fun w' hk => by rw [← hbf]; exact fine_is fk fi fj _ fm fzs w' (hpk.kept hk (fun _ _ => id)))
          rw [hbk]
          have hx2 := Lib.hid ((HX.out.kept hK.out id).alloc (.cells #[.int .i64 fk, .int .i64 fi, .int .i64 fj, .slice A fm C] 48))
          have hy2 := Lib.hid (Box.new wr #[.int .i64 fk, .int .i64 fi, .int .i64 fj, .slice A fm C] 48)
          have hk2 := Lib.hid (hK.out.alloc (.cells #[.int .i64 fk, .int .i64 fi, .int .i64 fj, .slice A fm C] 48))
          have hk1 := Lib.hid ((Kept.refl No wr).alloc (.cells #[.int .i64 fk, .int .i64 fi, .int .i64 fj, .slice A fm C] 48))
          have HF := Lib.hid hf
          clear hpk hf
          go_upto_region 13 with fail
          clear e0 e1 e2 e3
          generalize hww : wr.alloc (.cells #[.int .i64 fk, .int .i64 fi, .int .i64 fj, .slice A fm C] 48) = w2 at *
          clear hww
          obtain ⟨y0, y1, y2, y3⟩ := KW.box4 hy2.out
          have hfc : Hid (∀ p : KW w2, Calls Tryz.prog 47 #[.agg #[.int .i64 fk, .int .i64 fi, .int .i64 fj, .slice A fm C]] p.w fun e w'' => e = .returned (.bool bf) ∧ Kept No p.w w'') := Lib.hid (fun p => hfine.out p.w (hk1.out.trans p.h (fun _ _ f => f)))
          cases bk with
          | false =>
            refine wp_region_calm (by kernel_rfl) (by kernel_rfl) ?_
            repeat (go_big_quiet_step (fail))
            refine wpQuiet_nil ?_
            rintro _ ⟨p, rfl⟩
            have hkn := Lib.hid (hk2.out.trans p.h (fun _ _ f => f))
            generalize p.w = wz at *
            clear y0 y1 y2 y3
            go_wp2_with fail
            go_roundw
            case rel => exact ⟨t + 1, by omega, by go_num, by rw [hnx.out]; rfl, hkn⟩
            case measure => simp [intOf]; omega
          | true =>
            cases bf with
            | false =>
              refine wp_region_calm (by kernel_rfl) (by kernel_rfl) ?_
              repeat (go_big_quiet_step ((go_at_call 47; with_reducible exact calls_of _ (hfc.out _))))
              refine wpQuiet_nil ?_
              rintro _ ⟨p, rfl⟩
              have hkn := Lib.hid (hk2.out.trans p.h (fun _ _ f => f))
              generalize p.w = wz at *
              clear y0 y1 y2 y3
              go_wp2_with fail
              go_roundw
              case rel => exact ⟨t + 1, by omega, by go_num, by rw [hnx.out]; rfl, hkn⟩
              case measure => simp [intOf]; omega
            | true =>
              by_cases h0 : t = 0
              · subst h0
                simp only [Int.natCast_zero]
                refine wp_region_calm (by kernel_rfl) (by kernel_rfl) ?_
                repeat (go_big_quiet_step ((go_at_call 47; with_reducible exact calls_of _ (hfc.out _))))
                refine wpQuiet_nil ?_
                rintro _ ⟨p, rfl⟩
                have hkn := Lib.hid (hk2.out.trans p.h (fun _ _ f => f))
                generalize p.w = wz at *
                clear y0 y1 y2 y3
                go_wp2_with fail
                go_roundw
                case rel => exact ⟨1, by omega, by go_num, by rw [hnx.out]; rfl, hkn⟩
                case measure => simp [intOf]; omega
              · obtain ⟨s, rfl⟩ : ∃ s, t = s + 1 := ⟨t - 1, by omega⟩
                obtain ⟨f2, hf2⟩ : ∃ f, fs[s]? = some f := ⟨_, List.getElem?_eq_getElem (by have := HN.out; omega)⟩
                obtain ⟨g', o', hgo, hg', z0, z1, z2, z3⟩ := ((H.out.kept hK.out).kept hk1.out).at hf2
                obtain ⟨rfl, rfl⟩ : g = g' ∧ o = o' := by
                  simp only [Option.some.injEq, Addr.mk.injEq, and_true] at hgo
                  exact hgo
                clear z3
                simp only [Int.natCast_add, Int.natCast_one]
                have hs0 : (s : Int) + 1 - 1 = (s : Int) := by omega
                have hs1 : ((s : Int) + 1 == 0) = false := by rw [beq_eq_false_iff_ne]; omega
                have hs2 : (0 : Int) ≤ s := by omega
                have hs3 : (s : Int) < n := by omega
                have hs4 : (s : Int) ≤ 9223372036854775807 := by omega
                have q0 := KW.old z0 hg'
                have q1 := KW.old z1 hg'
                have q2 := KW.old z2 hg'
                have x2 : ∀ p : KW w2, p.w.cell? ⟨w.heap.size, 2, none⟩ = some (.slice (some ⟨g, o, none⟩) n cap) := KW.old (hx2.out.cell 2) hx2.out.lt
                rw [Nat.add_sub_cancel, fnd_at hf2] at hbl
                obtain ⟨k2, i2, j2, v2, m2, zs2⟩ := f2
                simp only at q0 q1 q2
                have hless : Hid (∀ p : KW w2, Calls Tryz.prog 48 #[.agg #[.int .i64 k2, .int .i64 i2, .int .i64 j2], .agg #[.int .i64 fk, .int .i64 fi, .int .i64 fj]] p.w fun e w'' => e = .returned (.bool bl) ∧ Kept No p.w w'') := Lib.hid (fun p => by rw [← hbl]; exact less_is k2 i2 j2 fk fi fj p.w)
                have hnx2 : Hid (okK fs ok (s + 1 + 1) = bl) := Lib.hid (by rw [hnx.out]; simp)
                clear hf2 hbl z0 z1 z2 hgo hnx h0 hbf hbk hfd
                refine wp_region_calm (by kernel_rfl) (by kernel_rfl) ?_
                repeat (go_big_quiet_step (first | (go_at_call 47; with_reducible exact calls_of _ (hfc.out _)) | (go_at_call 48; with_reducible exact calls_of _ (hless.out _))))
                refine wpQuiet_nil ?_
                rintro _ ⟨p, rfl⟩
                have hkn := Lib.hid (hk2.out.trans p.h (fun _ _ f => f))
                generalize p.w = wz at *
                clear y0 y1 y2 y3 q0 q1 q2 x2
                go_wp2_with fail
                go_roundw
                case rel => exact ⟨s + 1 + 1, by omega, by go_num, by rw [hnx2.out], hkn⟩
                case measure => simp [intOf]; omega
        · obtain rfl : t = n := by omega
          have hend : Hid (okR vd ed fs = okK fs ok t) := Lib.hid (by rw [hok.out, ← HN.out])
          have hkf := Lib.hid (HK.out.trans hK.out (fun _ _ f => f))
          generalize okK fs ok t = bz at *
          cases bz
          all_goals
            go_wp2_with fail
            go_ret
            exact ⟨by rw [chkR, hend.out]; rfl, hkf.out⟩
    clear hK1
    have HR3 := Lib.hid rest3
    clear rest3
    have heb : ∀ x, Hid (swB vd ed n = x) → Hid (okR vd ed fs = okK fs (ok && x) fs.length) := fun x hx => Lib.hid (by rw [hok.out, ← HB0.out, hx.out])
    have HEB := Lib.hid heb
    clear heb hok
    by_cases v4 : vd = 4
    · have hsw : Hid (swB vd ed n = ((ed == 0) && ((n : Int) == 0))) := Lib.hid (by rw [swB, if_pos v4])
      have HF := HEB.out _ hsw
      subst v4
      clear HEB hsw
      generalize hz0 : (ed == 0) = z0 at *
      generalize hz1 : ((n : Int) == 0) = z1 at *
      cases ok <;> cases z0
      all_goals
        go_wp2_with fail
        exact HR3.out _ HF _ _ _ _ _ _ _ _ _ _ _ _ _ _ _ _ _ _ _ _ _ _ _ _ _ _ _ _ _ _ _ _ _ _ _ _
    · by_cases v1 : vd = 1
      · have hsw : Hid (swB vd ed n = ((n : Int) == 0)) := Lib.hid (by rw [swB, if_neg v4, if_pos v1])
        have HF := HEB.out _ hsw
        subst v1
        clear HEB hsw v4
        cases ok
        all_goals
          go_wp2_with fail
          exact HR3.out _ HF _ _ _ _ _ _ _ _ _ _ _ _ _ _ _ _ _ _ _ _ _ _ _ _ _ _ _ _ _ _ _ _ _ _ _ _
      · by_cases v2 : vd = 2
        · have hsw : Hid (swB vd ed n = decide (0 < n)) := Lib.hid (by rw [swB, if_neg v4, if_neg v1, if_pos v2])
          have HF := HEB.out _ hsw
          subst v2
          clear HEB hsw v4 v1
          cases ok
          all_goals
            go_wp2_with fail
            exact HR3.out _ HF _ _ _ _ _ _ _ _ _ _ _ _ _ _ _ _ _ _ _ _ _ _ _ _ _ _ _ _ _ _ _ _ _ _ _ _
        · have hsw : Hid (swB vd ed n = true) := Lib.hid (by rw [swB, if_neg v4, if_neg v1, if_neg v2])
          have HF := HEB.out _ hsw
          have q4 : (vd == 4) = false := by rw [beq_eq_false_iff_ne]; exact v4
          have q1 : (vd == 1) = false := by rw [beq_eq_false_iff_ne]; exact v1
          have q2 : (vd == 2) = false := by rw [beq_eq_false_iff_ne]; exact v2
          rw [Bool.and_true] at HF
          clear HEB hsw v4 v1 v2
          go_wp2_with fail
          exact HR3.out _ HF _ _ _ _ _ _ _ _ _ _ _ _ _ _ _ _ _ _ _ _ _ _ _ _ _ _ _ _ _ _ _ _ _ _ _ _
  have HR2 := Lib.hid rest2
  clear hK rest2 c0 c1 c2
  have c0 : w0.cell? ⟨w.heap.size, 0, none⟩ = some (.int .i64 vd) := HX.out.cell 0
  have c1 : w0.cell? ⟨w.heap.size, 1, none⟩ = some (.int .i64 ed) := HX.out.cell 1
  cases x1 with
  | false =>
    go_wp2_with (first | (go_at_call 46; with_reducible refine (L1.out _).mono ?_; rintro e w' ⟨rfl, rfl⟩))
    exact HR2.out false (Lib.hid HE.out) _ _ _ _ _ _ _ _ _ _ _ _
  | true =>
    cases x2 with
    | false =>
      go_wp2_with (first | (go_at_call 46; with_reducible refine (L1.out _).mono ?_; rintro e w' ⟨rfl, rfl⟩) | (go_at_call 46; with_reducible refine (L2.out _).mono ?_; rintro e w' ⟨rfl, rfl⟩))
      exact HR2.out false (Lib.hid HE.out) _ _ _ _ _ _ _ _ _ _ _ _
    | true =>
      go_wp2_with (first | (go_at_call 46; with_reducible refine (L1.out _).mono ?_; rintro e w' ⟨rfl, rfl⟩) | (go_at_call 46; with_reducible refine (L2.out _).mono ?_; rintro e w' ⟨rfl, rfl⟩))
      exact HR2.out x3 (Lib.hid HE.out) _ _ _ _ _ _ _ _ _ _ _ _
end Go.Proofs.YtaffaliplmfagaaGreatDoor.Line
