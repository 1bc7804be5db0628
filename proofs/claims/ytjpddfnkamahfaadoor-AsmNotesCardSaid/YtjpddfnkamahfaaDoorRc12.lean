/-
  warrenerref11.Check.
-/
import Derived.Test.YtjpddfnkamahfaaDoorPc12
set_option linter.unusedVariables false
set_option linter.unusedSimpArgs false
namespace Go.Proofs.YtjpddfnkamahfaaDoor.Line
open Go.RowKit Go.Sort Go.Proofs.YtjpddfnkamahfaaDoor.Own Go.Proofs.YtjpddfnkamahfaaDoor.Conv Go.Proofs.YtjpddfnkamahfaaDoor.Calm Go.Proofs.YtjpddfnkamahfaaDoor.Open

theorem within_is (n hi : Int) (w : World) :
    Calls Tryd.prog 26 #[.int .i64 n, .int .i64 hi] w fun e w' => e = .returned (.bool (decide (0 ≤ n ∧ n ≤ hi))) ∧ w' = w := by
  go_enter Tryd.func26, Tryd.ntmps26
  by_cases h0 : 0 ≤ n
  · go_wp2_with fail
    all_goals
      go_ret
      simp
      omega
  · go_wp2_with fail
    all_goals
      go_ret
      simp
      omega

set_option maxRecDepth 100000 in
set_option maxHeartbeats 8000000 in
theorem refprog_is (r c s : Int) (hr : int64 r) (hs : int64 s) (ao : Option Addr) (n cap : Nat) (rows : List RowI) (w : World) (h : PR w (.slice ao n cap) rows) :
    Calls Tryd.prog 11 #[.agg #[.int .i64 r, .int .i64 c, .int .i64 s, .slice ao n cap]] w fun e w' => e = .returned (.int .i64 (progE r c s rows)) ∧ Kept No w w' := by
  obtain ⟨hn, hcap, hm⟩ := h.len
  unfold maxLen at hm
  have hn1 : n ≤ rows.length := by omega
  have hn2 : rows.length ≤ n := by omega
  obtain ⟨bR, hbR⟩ : ∃ b : Bool, decide (0 ≤ r ∧ r ≤ 4) = b := ⟨_, rfl⟩
  obtain ⟨bC, hbC⟩ : ∃ b : Bool, decide (0 ≤ c ∧ c ≤ 6) = b := ⟨_, rfl⟩
  obtain ⟨bS, hbS⟩ : ∃ b : Bool, decide (0 ≤ s ∧ s ≤ 2) = b := ⟨_, rfl⟩
  have L1 := Lib.hid (fun w => by have := within_is r 4 w; rw [hbR] at this; exact this)
  have L2 := Lib.hid (fun w => by have := within_is c 6 w; rw [hbC] at this; exact this)
  have L3 := Lib.hid (fun w => by have := within_is s 2 w; rw [hbS] at this; exact this)
  have hbx := Box.new w #[.int .i64 r, .int .i64 c, .int .i64 s, .slice ao n cap] 32
  have hk : Kept No w (w.alloc (.cells #[.int .i64 r, .int .i64 c, .int .i64 s, .slice ao n cap] 32)) := (Kept.refl _ _).alloc _
  have HX := Lib.hid hbx
  have HK := Lib.hid hk
  have H := Lib.hid (h.kept hk)
  have HR := Lib.hid hr
  have HS := Lib.hid hs
  clear hn h hbx hk hr hs
  go_enter Tryd.func11, Tryd.ntmps11
  go_upto_region 1 with fail
  generalize w.alloc (.cells #[.int .i64 r, .int .i64 c, .int .i64 s, .slice ao n cap] 32) = w0 at *
  have c0 : w0.cell? ⟨w.heap.size, 0, none⟩ = some (.int .i64 r) := HX.out.cell 0
  have c1 : w0.cell? ⟨w.heap.size, 1, none⟩ = some (.int .i64 c) := HX.out.cell 1
  have c2 : w0.cell? ⟨w.heap.size, 2, none⟩ = some (.int .i64 s) := HX.out.cell 2
  have c3 : w0.cell? ⟨w.heap.size, 3, none⟩ = some (.slice ao n cap) := HX.out.cell 3
  by_cases hall : bR = true ∧ bC = true ∧ bS = true
  · obtain ⟨rfl, rfl, rfl⟩ := hall
    have HRG : Hid (0 ≤ r ∧ r ≤ 4 ∧ 0 ≤ c ∧ c ≤ 6 ∧ 0 ≤ s ∧ s ≤ 2) := Lib.hid (by have := of_decide_eq_true hbR; have := of_decide_eq_true hbC; have := of_decide_eq_true hbS; omega)
    clear hbR hbC hbS
    go_upto_region 3 with (first | (go_at_call 26; with_reducible refine (L1.out _).mono ?_; rintro e w' ⟨rfl, rfl⟩) | (go_at_call 26; with_reducible refine (L2.out _).mono ?_; rintro e w' ⟨rfl, rfl⟩) | (go_at_call 26; with_reducible refine (L3.out _).mono ?_; rintro e w' ⟨rfl, rfl⟩))
    clear c0 c1 c2 L1 L2 L3
    by_cases hN : 1 ≤ n ∧ n ≤ 4
    · have HMN : Hid (1 ≤ rows.length ∧ rows.length ≤ 4) := Lib.hid (by omega)
      have e1 : decide ((n : Int) < 1) = false := decide_eq_false (by omega)
      have e2 : decide ((4 : Int) < n) = false := decide_eq_false (by omega)
      clear hN
      go_wp2_with fail
      go_loopw [3] (fun i wr => ∃ k : Nat, k ≤ n ∧ i = .int .i64 k ∧ Hid (∀ t, t < k → lenAt rows t ≤ 16) ∧ Kept No w' wr) (fun i _ => n - (intOf i).toNat)
      case atStart => exact ⟨0, by omega, rfl, Lib.hid (fun t ht => by omega), Kept.refl _ _⟩
      case round =>
        obtain ⟨k, hk, rfl, hall, hK⟩ := hrel
        have d3 : wr.cell? ⟨w.heap.size, 3, none⟩ = some (.slice ao n cap) := (HX.out.kept hK id).cell 3
        clear c3
        by_cases hlt : k < n
        · obtain ⟨g, o, rfl, hg, hcell⟩ := (H.out.kept hK).head (t := k) (by omega)
          obtain ⟨a2, cp2, hv, h1, h2, _⟩ := H.out.thread (t := k) (by omega)
          rw [hv] at hcell
          obtain ⟨m, hL⟩ : ∃ m, lenAt rows k = m := ⟨_, rfl⟩
          rw [hL] at hcell h1
          unfold maxLen at h2
          have HL := Lib.hid hL
          clear hv hL
          by_cases h16 : 16 < m
          · have e3 : decide ((16 : Int) < m) = true := decide_eq_true (by omega)
            have HE : Hid (progE r c s rows = 4) := Lib.hid (progE_long HRG.out HMN.out (t := k) (by omega) (by rw [HL.out]; exact h16))
            clear h16
            go_wp2_with fail
            go_ret
            exact ⟨by rw [HE.out]; rfl, HK.out.trans hK (fun _ _ f => f)⟩
          · have e3 : decide ((16 : Int) < m) = false := decide_eq_false (by omega)
            have HL2 : Hid (lenAt rows k ≤ 16) := Lib.hid (by rw [HL.out]; omega)
            clear h16
            go_wp2_with fail
            go_roundw
            case rel => exact ⟨k + 1, by omega, by go_num, Lib.hid (fun q hq => (Nat.lt_succ_iff_lt_or_eq.1 hq).elim (fun h => hall.out q h) (fun h => h ▸ HL2.out)), hK⟩
            case measure => simp [intOf]; omega
        · obtain rfl : n = k := by omega
          have HE : Hid (progE r c s rows = firstT (lenAt rows) (chkAt r s rows) rows.length) := Lib.hid (progE_else HRG.out HMN.out (fun t ht => hall.out t (by omega)))
          clear hall
          go_wp2_with fail
          go_loopw [4] (fun i wr => ∃ k : Nat, k ≤ n ∧ i = .int .i64 k ∧ Hid (firstT (lenAt rows) (chkAt r s rows) k = 0) ∧ Kept No w' wr) (fun i _ => n - (intOf i).toNat)
          case atStart => exact ⟨0, by omega, rfl, Lib.hid rfl, hK⟩
          case round =>
            clear hK d3
            obtain ⟨t, ht, rfl, h0, hK⟩ := hrel
            have d3 : wr.cell? ⟨w.heap.size, 3, none⟩ = some (.slice ao n cap) := (HX.out.kept hK id).cell 3
            by_cases hlt : t < n
            · obtain ⟨a2, cp2, hv, h1, h2, hth⟩ := H.out.thread (t := t) (by omega)
              obtain ⟨m, hL⟩ : ∃ m, lenAt rows t = m := ⟨_, rfl⟩
              rw [hL] at hv h1 hth
              unfold maxLen at h2
              have HTH := Lib.hid hth
              have HV := Lib.hid hv
              have HL := Lib.hid hL
              have HK3 := Lib.hid hK
              have it0 : (t : Int) < (n : Int) := by omega
              clear hv hL hth hK
              go_wp2_with fail
              clear d3
              go_loopw [5] (fun i wr => ∃ k : Nat, k ≤ m ∧ i = .int .i64 k ∧ Hid (firstI (chkAt r s rows t) k = 0) ∧ Kept No w' wr) (fun i _ => m - (intOf i).toNat)
              case atStart => exact ⟨0, by omega, rfl, Lib.hid rfl, HK3.out⟩
              case round =>
                obtain ⟨q, hq, rfl, h3, hK⟩ := hrel
                clear HK3
                obtain ⟨g, o, rfl, hg, hcell⟩ := (H.out.kept hK).head (t := t) (by omega)
                rw [HV.out] at hcell
                have hxr := HX.out.kept hK id
                have d3 : wr.cell? ⟨w.heap.size, 3, none⟩ = some (.slice (some ⟨g, o, none⟩) n cap) := hxr.cell 3
                by_cases hlq : q < m
                · obtain ⟨g2, o2, rfl, hg2, hc⟩ := HTH.out (by omega)
                  obtain ⟨d0, d1, d2, d4, d5⟩ := cells5 hc hg2 hK hlq
                  obtain ⟨ev, hev⟩ : ∃ ev, chkAt r s rows t q = ev := ⟨_, rfl⟩
                  have hck : ∀ p : KW wr, Calls Tryd.prog 27 #[.agg #[.int .i64 (numAt rows t (q * 5)), .int .i64 (numAt rows t (q * 5 + 1)), .int .i64 (numAt rows t (q * 5 + 2)), .int .i64 (numAt rows t (q * 5 + 3)), .int .i64 (numAt rows t (q * 5 + 4))], .agg #[.int .i64 r, .int .i64 c, .int .i64 s, .slice (some ⟨g, o, none⟩) n cap], .int .i64 m] p.w fun e w' => e = .returned (.int .i64 ev) ∧ Kept No p.w w' := fun p => by
                    have := refcheck_is (numAt rows t (q * 5)) (numAt rows t (q * 5 + 1)) (numAt rows t (q * 5 + 2)) (numAt rows t (q * 5 + 3)) (numAt rows t (q * 5 + 4)) r c s m (.slice (some ⟨g, o, none⟩) n cap) HR.out HS.out p.w
                    rw [show checkZ (numAt rows t (q * 5)) (numAt rows t (q * 5 + 1)) (numAt rows t (q * 5 + 2)) (numAt rows t (q * 5 + 3)) (numAt rows t (q * 5 + 4)) r s m = ev by rw [← hev, chkAt, HL.out]] at this
                    exact this
                  have HCK := Lib.hid hck
                  have HEV := Lib.hid hev
                  have hg2' : g2 < wr.heap.size := Nat.lt_of_lt_of_le hg2 hK.size
                  have iq0 : (q : Int) < (m : Int) := by omega
                  have HKr := Lib.hid hK
                  clear hc hg2 hev hck hK
                  generalize numAt rows t (q * 5) = z0 at *
                  generalize numAt rows t (q * 5 + 1) = z1 at *
                  generalize numAt rows t (q * 5 + 2) = z2 at *
                  generalize numAt rows t (q * 5 + 3) = z3 at *
                  generalize numAt rows t (q * 5 + 4) = z4 at *
                  go_upto_region 16 with fail
                  have f0 := KW.old d0 hg2'
                  have f1 := KW.old d1 hg2'
                  have f2 := KW.old d2 hg2'
                  have f4 := KW.old d4 hg2'
                  have f5 := KW.old d5 hg2'
                  have fh := KW.old hcell hg
                  obtain ⟨p0, p1, p2, p3⟩ := KW.box4 hxr
                  clear d0 d1 d2 d3 d4 d5 hcell hxr
                  refine wp_region_calm (by kernel_rfl) (by kernel_rfl) ?_
                  repeat (go_big_quiet_step ((go_at_call 27; with_reducible exact calls_of _ (HCK.out _))))
                  refine wpQuiet_nil ?_
                  rintro _ ⟨p, rfl⟩
                  have hK3 := HKr.out.trans p.h (fun _ _ f => f)
                  generalize p.w = w3 at *
                  clear f0 f1 f2 f4 f5 fh p0 p1 p2 p3 HCK HKr
                  by_cases h0e : ev = 0
                  · subst h0e
                    have e0 : ((0 : Int) != 0) = false := rfl
                    go_wp2_with fail
                    go_roundw
                    case rel => exact ⟨q + 1, by omega, by go_num, Lib.hid (first_ins h3.out HEV.out), hK3⟩
                    case measure => simp [intOf]; omega
                  · have e0 : (ev != 0) = true := by simp [h0e]
                    have HE2 : Hid (progE r c s rows = ev) := Lib.hid (by rw [HE.out, first_at (t := t) (i := q) (by omega) (by rw [HL.out]; exact hlq) h0.out h3.out (by rw [HEV.out]; exact h0e), HEV.out])
                    clear h0e
                    go_wp2_with fail
                    go_ret
                    exact ⟨by rw [HE2.out]; rfl, HK.out.trans hK3 (fun _ _ f => f)⟩
                · obtain rfl : q = m := by omega
                  go_wp2_with fail
                  go_roundw
                  case rel => exact ⟨t + 1, by omega, by go_num, Lib.hid (first_row h0.out (by rw [HL.out]; exact h3.out)), hK⟩
                  case measure => simp [intOf]; omega
            · obtain rfl : t = n := by omega
              go_wp2_with fail
              go_ret
              exact ⟨by rw [HE.out, show rows.length = t by omega, h0.out]; rfl, HK.out.trans hK (fun _ _ f => f)⟩
    · have HE : Hid (progE r c s rows = 4) := Lib.hid (progE_many HRG.out (by omega))
      by_cases hN1 : n < 1
      · have e1 : decide ((n : Int) < 1) = true := decide_eq_true (by omega)
        clear hN
        go_wp2_with fail
        go_ret
        exact ⟨by rw [HE.out]; rfl, HK.out⟩
      · have e1 : decide ((n : Int) < 1) = false := decide_eq_false (by omega)
        have e2 : decide ((4 : Int) < n) = true := decide_eq_true (by omega)
        clear hN
        go_wp2_with fail
        go_ret
        exact ⟨by rw [HE.out]; rfl, HK.out⟩
  · have HE : Hid (progE r c s rows = 3) := Lib.hid (progE_range rows (fun f => hall ⟨by rw [← hbR]; exact decide_eq_true (by omega), by rw [← hbC]; exact decide_eq_true (by omega), by rw [← hbS]; exact decide_eq_true (by omega)⟩))
    clear hbR hbC hbS
    cases bR <;> cases bC <;> cases bS
    case true.true.true => exact absurd ⟨rfl, rfl, rfl⟩ hall
    all_goals
      clear hall
      go_wp2_with (first | (go_at_call 26; with_reducible refine (L1.out _).mono ?_; rintro e w' ⟨rfl, rfl⟩) | (go_at_call 26; with_reducible refine (L2.out _).mono ?_; rintro e w' ⟨rfl, rfl⟩) | (go_at_call 26; with_reducible refine (L3.out _).mono ?_; rintro e w' ⟨rfl, rfl⟩))
      go_ret
      exact ⟨by rw [HE.out]; rfl, HK.out⟩
end Go.Proofs.YtjpddfnkamahfaaDoor.Line
