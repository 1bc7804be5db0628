/-
  prog.Check.
-/
import Derived.Test.YtjpddfnkamahfaaDoorLong12
set_option linter.unusedVariables false
set_option linter.unusedSimpArgs false
namespace Go.Proofs.YtjpddfnkamahfaaDoor.Line
open Go.RowKit Go.Sort Go.Proofs.YtjpddfnkamahfaaDoor.Own Go.Proofs.YtjpddfnkamahfaaDoor.Conv Go.Proofs.YtjpddfnkamahfaaDoor.Calm Go.Proofs.YtjpddfnkamahfaaDoor.Open

theorem in_is (n lo hi : Int) (w : World) :
    Calls Tryd.prog 48 #[.int .i64 n, .int .i64 lo, .int .i64 hi] w fun e w' => e = .returned (.bool (decide (lo ≤ n ∧ n ≤ hi))) ∧ w' = w := by
  go_enter Tryd.func48, Tryd.ntmps48
  by_cases h0 : lo ≤ n
  · go_wp2_with fail
    all_goals
      go_ret
      simp
      omega
  · go_wp2_with fail
    all_goals
      go_ret
      simp
      omega

theorem cells5 {w w' : World} {g o m : Nat} {f : Nat → Int} (h : ∀ k, k < m * 5 → w.cell? ⟨g, o + k, none⟩ = some (.int .i64 (f k))) (hg : g < w.heap.size) (hk : Kept No w w') {i : Nat} (hi : i < m) :
    w'.cell? ⟨g, o + i * 5, none⟩ = some (.int .i64 (f (i * 5))) ∧ w'.cell? ⟨g, o + i * 5 + 1, none⟩ = some (.int .i64 (f (i * 5 + 1))) ∧ w'.cell? ⟨g, o + i * 5 + 2, none⟩ = some (.int .i64 (f (i * 5 + 2))) ∧ w'.cell? ⟨g, o + i * 5 + 3, none⟩ = some (.int .i64 (f (i * 5 + 3))) ∧ w'.cell? ⟨g, o + i * 5 + 4, none⟩ = some (.int .i64 (f (i * 5 + 4))) :=
  ⟨(hk.cell (p := ⟨g, o + i * 5, none⟩) hg id).trans (h (i * 5) (by omega)), (hk.cell (p := ⟨g, o + i * 5 + 1, none⟩) hg id).trans (h (i * 5 + 1) (by omega)), (hk.cell (p := ⟨g, o + i * 5 + 2, none⟩) hg id).trans (h (i * 5 + 2) (by omega)), (hk.cell (p := ⟨g, o + i * 5 + 3, none⟩) hg id).trans (h (i * 5 + 3) (by omega)), (hk.cell (p := ⟨g, o + i * 5 + 4, none⟩) hg id).trans (h (i * 5 + 4) (by omega))⟩

set_option maxRecDepth 100000 in
set_option maxHeartbeats 8000000 in
theorem progcheck_is (r c s : Int) (hr : int64 r) (hs : int64 s) (ao : Option Addr) (n cap : Nat) (rows : List RowI) (w : World) (h : PR w (.slice ao n cap) rows) :
    Calls Tryd.prog 32 #[.agg #[.int .i64 r, .int .i64 c, .int .i64 s, .slice ao n cap]] w fun e w' => e = .returned (.int .i64 (progE r c s rows)) ∧ Kept No w w' := by
  obtain ⟨hn, hcap, hm⟩ := h.len
  unfold maxLen at hm
  have hn1 : n ≤ rows.length := by omega
  have hn2 : rows.length ≤ n := by omega
  obtain ⟨bR, hbR⟩ : ∃ b : Bool, decide (0 ≤ r ∧ r ≤ 4) = b := ⟨_, rfl⟩
  obtain ⟨bC, hbC⟩ : ∃ b : Bool, decide (0 ≤ c ∧ c ≤ 6) = b := ⟨_, rfl⟩
  obtain ⟨bS, hbS⟩ : ∃ b : Bool, decide (0 ≤ s ∧ s ≤ 2) = b := ⟨_, rfl⟩
  obtain ⟨bN, hbN⟩ : ∃ b : Bool, decide (1 ≤ (n : Int) ∧ (n : Int) ≤ 4) = b := ⟨_, rfl⟩
  have L1 := Lib.hid (fun w => by have := in_is r 0 4 w; rw [hbR] at this; exact this)
  have L2 := Lib.hid (fun w => by have := in_is c 0 6 w; rw [hbC] at this; exact this)
  have L3 := Lib.hid (fun w => by have := in_is s 0 2 w; rw [hbS] at this; exact this)
  have L4 := Lib.hid (fun w => by have := in_is n 1 4 w; rw [hbN] at this; exact this)
  have hbx := Box.new w #[.int .i64 r, .int .i64 c, .int .i64 s, .slice ao n cap] 32
  have hk : Kept No w (w.alloc (.cells #[.int .i64 r, .int .i64 c, .int .i64 s, .slice ao n cap] 32)) := (Kept.refl _ _).alloc _
  have HX := Lib.hid hbx
  have HK := Lib.hid hk
  have H := Lib.hid (h.kept hk)
  have HR := Lib.hid hr
  have HS := Lib.hid hs
  clear hn h hbx hk hr hs
  go_enter Tryd.func32, Tryd.ntmps32
  go_upto_region 1 with fail
  generalize w.alloc (.cells #[.int .i64 r, .int .i64 c, .int .i64 s, .slice ao n cap] 32) = w0 at *
  have c0 : w0.cell? ⟨w.heap.size, 0, none⟩ = some (.int .i64 r) := HX.out.cell 0
  have c1 : w0.cell? ⟨w.heap.size, 1, none⟩ = some (.int .i64 c) := HX.out.cell 1
  have c2 : w0.cell? ⟨w.heap.size, 2, none⟩ = some (.int .i64 s) := HX.out.cell 2
  have c3 : w0.cell? ⟨w.heap.size, 3, none⟩ = some (.slice ao n cap) := HX.out.cell 3
  by_cases hall : bR = true ∧ bC = true ∧ bS = true
  · obtain ⟨rfl, rfl, rfl⟩ := hall
    have HRG : Hid (0 ≤ r ∧ r ≤ 4 ∧ 0 ≤ c ∧ c ≤ 6 ∧ 0 ≤ s ∧ s ≤ 2) := Lib.hid (by have := of_decide_eq_true hbR; have := of_decide_eq_true hbC; have := of_decide_eq_true hbS; omega)
    clear hbR hbC hbS
    cases bN
    · have HE : Hid (progE r c s rows = 4) := Lib.hid (progE_many HRG.out (by have := of_decide_eq_false hbN; omega))
      clear hbN
      go_wp2_with (first | (go_at_call 48; with_reducible refine (L1.out _).mono ?_; rintro e w' ⟨rfl, rfl⟩) | (go_at_call 48; with_reducible refine (L2.out _).mono ?_; rintro e w' ⟨rfl, rfl⟩) | (go_at_call 48; with_reducible refine (L3.out _).mono ?_; rintro e w' ⟨rfl, rfl⟩) | (go_at_call 48; with_reducible refine (L4.out _).mono ?_; rintro e w' ⟨rfl, rfl⟩))
      go_ret
      exact ⟨by rw [HE.out]; rfl, HK.out⟩
    have HMN : Hid (1 ≤ rows.length ∧ rows.length ≤ 4) := Lib.hid (by have := of_decide_eq_true hbN; omega)
    clear hbN
    go_upto_region 5 with (first | (go_at_call 48; with_reducible refine (L1.out _).mono ?_; rintro e w' ⟨rfl, rfl⟩) | (go_at_call 48; with_reducible refine (L2.out _).mono ?_; rintro e w' ⟨rfl, rfl⟩) | (go_at_call 48; with_reducible refine (L3.out _).mono ?_; rintro e w' ⟨rfl, rfl⟩) | (go_at_call 48; with_reducible refine (L4.out _).mono ?_; rintro e w' ⟨rfl, rfl⟩))
    go_wp2_with fail
    refine (anylong_is ao n cap rows _ H.out).mono ?_
    rintro e w1 ⟨⟨b, rfl, hb⟩, k1⟩
    have hk1 := HK.out.trans k1 (fun _ _ f => f)
    have hx1 := HX.out.kept k1 id
    have h1 := H.out.kept k1
    clear c0 c1 c2 c3 L1 L2 L3 L4 k1 HX HK H
    have c0 : w1.cell? ⟨w.heap.size, 0, none⟩ = some (.int .i64 r) := hx1.cell 0
    have c3 : w1.cell? ⟨w.heap.size, 3, none⟩ = some (.slice ao n cap) := hx1.cell 3
    have HX := Lib.hid hx1
    have HK := Lib.hid hk1
    have H := Lib.hid h1
    clear hx1 hk1 h1
    rcases hb with ⟨rfl, hall⟩ | ⟨rfl, t, ht, hl⟩
    · have HE : Hid (progE r c s rows = firstT (lenAt rows) (chkAt r s rows) rows.length) := Lib.hid (progE_else HRG.out HMN.out hall)
      clear hall
      go_wp2_with fail
      go_loopw [38] (fun i wr => ∃ k : Nat, k ≤ n ∧ i = .int .i64 k ∧ Hid (firstT (lenAt rows) (chkAt r s rows) k = 0) ∧ Kept No w1 wr) (fun i _ => n - (intOf i).toNat)
      case atStart => exact ⟨0, by omega, rfl, Lib.hid rfl, Kept.refl _ _⟩
      case round =>
        obtain ⟨t, ht, rfl, h0, hK⟩ := hrel
        clear c0 c3
        by_cases hlt : t < n
        · obtain ⟨g, o, rfl, hg, hcell⟩ := (H.out.kept hK).head (t := t) (by omega)
          obtain ⟨a2, cp2, hv, h1, h2, hth⟩ := H.out.thread (t := t) (by omega)
          rw [hv] at hcell
          obtain ⟨m, hL⟩ : ∃ m, lenAt rows t = m := ⟨_, rfl⟩
          rw [hL] at hcell h1 hth
          unfold maxLen at h2
          have HTH := Lib.hid hth
          have HL := Lib.hid hL
          have HK3 := Lib.hid hK
          clear hv hL hth hK
          go_upto_region 10 with fail
          clear hcell hg
          go_wp2_with fail
          go_loopw [44] (fun i wr => ∃ k : Nat, k ≤ m ∧ i = .int .i64 k ∧ Hid (firstI (chkAt r s rows t) k = 0) ∧ Kept No w1 wr) (fun i _ => m - (intOf i).toNat)
          case atStart => exact ⟨0, by omega, rfl, Lib.hid rfl, HK3.out⟩
          case round =>
            obtain ⟨q, hq, rfl, h3, hK⟩ := hrel
            clear HK3
            by_cases hlq : q < m
            · obtain ⟨g2, o2, rfl, hg2, hc⟩ := HTH.out (by omega)
              obtain ⟨d0, d1, d2, d3, d4⟩ := cells5 hc hg2 hK hlq
              obtain ⟨ev, hev⟩ : ∃ ev, chkAt r s rows t q = ev := ⟨_, rfl⟩
              have hck := fun u w => check_is (numAt rows t (q * 5)) (numAt rows t (q * 5 + 1)) (numAt rows t (q * 5 + 2)) (numAt rows t (q * 5 + 3)) (numAt rows t (q * 5 + 4)) r c s m u HR.out HS.out w
              rw [show checkZ (numAt rows t (q * 5)) (numAt rows t (q * 5 + 1)) (numAt rows t (q * 5 + 2)) (numAt rows t (q * 5 + 3)) (numAt rows t (q * 5 + 4)) r s m = ev by rw [← hev, chkAt, HL.out]] at hck
              have HCK := Lib.hid hck
              have HEV := Lib.hid hev
              clear hc hg2 hev hck
              generalize numAt rows t (q * 5) = z0 at *
              generalize numAt rows t (q * 5 + 1) = z1 at *
              generalize numAt rows t (q * 5 + 2) = z2 at *
              generalize numAt rows t (q * 5 + 3) = z3 at *
              generalize numAt rows t (q * 5 + 4) = z4 at *
              go_upto_region 13 with fail
              have hx2 := (HX.out.kept hK id).alloc (.cells #[.int .i64 z0, .int .i64 z1, .int .i64 z2, .int .i64 z3, .int .i64 z4] 25)
              have hi2 := Box.new wr #[.int .i64 z0, .int .i64 z1, .int .i64 z2, .int .i64 z3, .int .i64 z4] 25
              have hK2 := hK.alloc (.cells #[.int .i64 z0, .int .i64 z1, .int .i64 z2, .int .i64 z3, .int .i64 z4] 25)
              clear d0 d1 d2 d3 d4 hK
              have i0 := hi2.cell 0
              have i1 := hi2.cell 1
              have i2 := hi2.cell 2
              have i3 := hi2.cell 3
              have i4 := hi2.cell 4
              have p0 := hx2.cell 0
              have p1 := hx2.cell 1
              have p2 := hx2.cell 2
              have p3 := hx2.cell 3
              simp only [List.getElem?_toArray, List.getElem?_cons_zero, List.getElem?_cons_succ] at i0 i1 i2 i3 i4 p0 p1 p2 p3
              clear hx2 hi2
              generalize wr.alloc (.cells #[.int .i64 z0, .int .i64 z1, .int .i64 z2, .int .i64 z3, .int .i64 z4] 25) = w2 at *
              generalize wr.heap.size = xb at *
              go_wp2_with fail
              refine (HCK.out _ _).mono ?_
              rintro e w3 ⟨rfl, k3⟩
              have hK3 := hK2.trans k3 (fun _ _ f => f)
              clear i0 i1 i2 i3 i4 p0 p1 p2 p3 hK2 k3
              by_cases h0e : ev = 0
              · subst h0e
                have e0 : ((0 : Int) != 0) = false := rfl
                go_wp2_with fail
                go_roundw
                case rel => exact ⟨q + 1, by omega, by go_num, Lib.hid (first_ins h3.out HEV.out), hK3⟩
                case measure => simp [intOf]; omega
              · have e0 : (ev != 0) = true := by simp [h0e]
                have HE2 : Hid (progE r c s rows = ev) := Lib.hid (by rw [HE.out, first_at (t := t) (i := q) (by omega) (by rw [HL.out]; exact hlq) h0.out h3.out (by rw [HEV.out]; exact h0e), HEV.out])
                clear h0e
                go_wp2_with fail
                go_ret
                exact ⟨by rw [HE2.out]; rfl, HK.out.trans hK3 (fun _ _ f => f)⟩
            · obtain rfl : q = m := by omega
              go_wp2_with fail
              go_roundw
              case rel => exact ⟨t + 1, by omega, by go_num, Lib.hid (first_row h0.out (by rw [HL.out]; exact h3.out)), hK⟩
              case measure => simp [intOf]; omega
        · obtain rfl : t = n := by omega
          go_wp2_with fail
          go_ret
          exact ⟨by rw [HE.out, show rows.length = t by omega, h0.out]; rfl, HK.out.trans hK (fun _ _ f => f)⟩
    · have HE : Hid (progE r c s rows = 4) := Lib.hid (progE_long HRG.out HMN.out ht hl)
      clear ht hl
      go_wp2_with fail
      go_ret
      exact ⟨by rw [HE.out]; rfl, HK.out⟩
  · have HE : Hid (progE r c s rows = 3) := Lib.hid (progE_range rows (fun f => hall ⟨by rw [← hbR]; exact decide_eq_true (by omega), by rw [← hbC]; exact decide_eq_true (by omega), by rw [← hbS]; exact decide_eq_true (by omega)⟩))
    clear hbR hbC hbS hbN
    cases bR <;> cases bC <;> cases bS
    case true.true.true => exact absurd ⟨rfl, rfl, rfl⟩ hall
    all_goals
      clear hall
      go_wp2_with (first | (go_at_call 48; with_reducible refine (L1.out _).mono ?_; rintro e w' ⟨rfl, rfl⟩) | (go_at_call 48; with_reducible refine (L2.out _).mono ?_; rintro e w' ⟨rfl, rfl⟩) | (go_at_call 48; with_reducible refine (L3.out _).mono ?_; rintro e w' ⟨rfl, rfl⟩))
      go_ret
      exact ⟨by rw [HE.out]; rfl, HK.out⟩
end Go.Proofs.YtjpddfnkamahfaaDoor.Line
