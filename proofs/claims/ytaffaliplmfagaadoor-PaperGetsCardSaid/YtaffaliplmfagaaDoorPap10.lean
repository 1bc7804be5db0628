/-
  The statements' wrong; paper.Get of no octets.
-/
import Derived.Test.YtaffaliplmfagaaDoorPap7
set_option linter.unusedVariables false
set_option linter.unusedSimpArgs false
namespace Go.Proofs.YtaffaliplmfagaaDoor.Line
open Go.RowKit Go.Sort Go.Proofs.YtaffaliplmfagaaDoor.Own Go.Proofs.YtaffaliplmfagaaDoor.Conv Go.Proofs.YtaffaliplmfagaaDoor.Calm Go.Proofs.YtaffaliplmfagaaDoor.Oct

set_option maxRecDepth 100000 in
set_option maxHeartbeats 8000000 in
theorem wrong_nil (a : Option Addr) (cap : Nat) (w : World) : Calls Tryd.prog 14 #[.slice a 0 cap] w fun e w' => e = .returned (.tuple #[.int .i64 0, .int .i64 1]) ∧ Kept No w w' := by
  go_enter Tryd.func14, Tryd.ntmps14
  go_wp2_with fail
  go_ret2
  exact ⟨rfl, Kept.refl _ _⟩

set_option maxRecDepth 100000 in
set_option maxHeartbeats 8000000 in
theorem wrong_is (g o n cap : Nat) (bs : List Int) (w : World) (h : Rd w 1 (.slice (some ⟨g, o, none⟩) n cap) n (bv bs)) (hoc : Octs bs) (hn1 : 1 ≤ n) (hn : n ≤ 1000) :
    Calls Tryd.prog 14 #[.slice (some ⟨g, o, none⟩) n cap] w fun e w' => e = .returned (.tuple #[.int .i64 (wrongP bs).1, .int .i64 (wrongP bs).2]) ∧ Kept No w w' := by
  have hl : bs.length = n := by have := h.len; rw [bv_len] at this; omega
  obtain ⟨-, ao, c, hv, hc, hm, -, hcell⟩ := id h
  rw [Value.slice.injEq] at hv
  obtain ⟨rfl, -, rfl⟩ := hv
  unfold maxLen at hm
  obtain ⟨g', o', hgo, hg, hcell⟩ := hcell (by omega)
  simp only [Option.some.injEq, Addr.mk.injEq, and_true] at hgo
  obtain ⟨rfl, rfl⟩ := hgo
  obtain ⟨z0, hz0⟩ : ∃ z, bs[0]? = some z := ⟨_, List.getElem?_eq_getElem (by omega)⟩
  have hcz : w.cell? ⟨g, o, none⟩ = some (.int .u8 z0) := hcell 0 (.int .u8 z0) (by rw [bv, List.getElem?_map, hz0]; rfl)
  have hgd0 : Hid (bs.getD 0 0 = z0) := Lib.hid (by rw [List.getD_eq_getElem?_getD, hz0]; rfl)
  have hne0 : ((n : Int) == 0) = false := by rw [beq_eq_false_iff_ne]; omega
  have HL := Lib.hid hl
  have HR := Lib.hid h
  have HO := Lib.hid hoc
  have HC := Lib.hid hcell
  have HG := Lib.hid hg
  clear hl h hoc hz0 hcell hg
  go_enter Tryd.func14, Tryd.ntmps14
  by_cases h82 : z0 = 82
  · have hq : (z0 != 82) = false := by rw [h82]; rfl
    have hgd : Hid (bs.getD 0 0 = 82) := Lib.hid (by rw [hgd0.out]; exact h82)
    clear h82
    by_cases h9 : n < 9
    · have HW : Hid (wrongP bs = (n, 1)) := Lib.hid (by rw [wrong_few (by rw [HL.out]; omega) hgd.out (by rw [HL.out]; omega), HL.out])
      have i1 : (n : Int) < 9 := by omega
      go_wp2_with fail
      go_ret2
      rw [HW.out]
      exact ⟨rfl, Kept.refl _ _⟩
    · have i1 : ¬ (n : Int) < 9 := by omega
      have h8l : 8 < bs.length := by rw [HL.out]; omega
      have hb8 := Pick.beN_at bs HO.out 8 h8l
      have hd8 : beN ((bs.drop 8).take 1) < 256 := by
        have := beN_lt 1 (bs.drop 8) (fun c hc => HO.out c (List.mem_of_mem_drop hc))
        simpa using this
      have hc8 : w.cell? ⟨g, o + 8, none⟩ = some (.int .u8 ((beN ((bs.drop 8).take 1) : Nat) : Int)) := HC.out 8 _ (by rw [hb8, bv, List.getElem?_map, List.getElem?_eq_getElem h8l]; rfl)
      obtain ⟨sc, hsc⟩ : ∃ s, scanF bs 9 (beN ((bs.drop 8).take 1)) = s := ⟨_, rfl⟩
      have hWs : ∀ a b, sc = (a, b) → b ≠ 0 → wrongP bs = (a, b) := fun a b h hb => wrong_scan hgd.out (by rw [HL.out]; omega) (hsc.trans h) hb
      have hWm : ∀ a, sc = (a, 0) → a < n → wrongP bs = (a, 1) := fun a h hb => wrong_more hgd.out (by rw [HL.out]; omega) (hsc.trans h) (by rw [HL.out]; exact hb)
      have hWn : ∀ a, sc = (a, 0) → ¬ a < n → wrongP bs = (a, 0) := fun a h hb => wrong_none hgd.out (by rw [HL.out]; omega) (hsc.trans h) (by rw [HL.out]; exact hb)
      obtain ⟨d, hd⟩ : ∃ d, beN ((bs.drop 8).take 1) = d := ⟨_, rfl⟩
      rw [hd] at hd8 hc8 hsc
      have HSC := Lib.hid hsc
      have HWs := Lib.hid hWs
      have HWm := Lib.hid hWm
      have HWn := Lib.hid hWn
      have HC8 := Lib.hid hc8
      have HCZ := Lib.hid hcz
      clear hb8 h8l hd hsc hWs hWm hWn hc8
      go_wp2_with fail
      go_loopw [4, 5] (fun a i wr => ∃ t k : Nat, t ≤ d ∧ i = .int .i64 t ∧ a = .int .i64 k ∧ k ≤ n ∧ Hid (scanF bs k (d - t) = sc) ∧ Kept No w wr) (fun _ i _ => d - (intOf i).toNat)
      case atStart => exact ⟨0, 9, by omega, rfl, rfl, by omega, HSC, Kept.refl _ _⟩
      case round =>
        clear hcz
        obtain ⟨t, k, ht, rfl, rfl, hkn, HK, hK⟩ := hrel
        have c8 : wr.cell? ⟨g, o + 8, none⟩ = some (.int .u8 d) := (hK.cell (p := ⟨g, o + 8, none⟩) HG.out id).trans HC8.out
        by_cases hlt : t < d
        · have i2 : (t : Int) < (d : Int) := by omega
          obtain ⟨r, hr⟩ : ∃ r, d - t = r + 1 := ⟨d - t - 1, by omega⟩
          have hr' : d - (t + 1) = r := by omega
          by_cases h3 : n < k + 3
          · have hs : sc = (n, 1) := by rw [← HK.out, hr, scan_short (by rw [HL.out]; exact h3), HL.out]
            have HW := Lib.hid (HWs.out n 1 hs (by decide))
            have i3 : (k : Int) + 3 > (n : Int) := by omega
            clear hs hr
            go_wp2_with fail
            go_ret2
            rw [HW.out]
            exact ⟨rfl, hK⟩
          · have hrd : ∀ u, (u = .slice (some ⟨g, o + (k + 3), none⟩) (n - (k + 3)) (cap - (k + 3)) ∨ (n - (k + 3) = 0 ∧ ∃ a, u = .slice (some a) 0 (cap - (k + 3)))) → Rd wr 1 u (n - (k + 3)) (bv (bs.drop (k + 3))) := fun u hu => rd_drop (HR.out.kept hK (fun _ _ => id)) (by omega) hn1 u hu
            have hod : Octs (bs.drop (k + 3)) := fun c hc => HO.out c (List.mem_of_mem_drop hc)
            have hget : ∀ u, (u = .slice (some ⟨g, o + (k + 3), none⟩) (n - (k + 3)) (cap - (k + 3)) ∨ (n - (k + 3) = 0 ∧ ∃ a, u = .slice (some a) 0 (cap - (k + 3)))) → Calls Tryd.prog 37 #[u] wr (Pick.GetPost wr (bs.drop (k + 3))) := fun u hu => Pick.get_is wr _ _ _ hod (hrd u hu) (by omega)
            have hle := wrong_le (bs.drop (k + 3))
            rw [List.length_drop, HL.out] at hle
            have i3 : ¬ (k : Int) + 3 > (n : Int) := by omega
            have HGT := Lib.hid hget
            have HSH : Hid (¬ bs.length < k + 3) := Lib.hid (by rw [HL.out]; exact h3)
            have hss : (Pick.wrongL (bs.drop (k + 3))).2 ≠ 0 → sc = (k + 3 + (Pick.wrongL (bs.drop (k + 3))).1, (Pick.wrongL (bs.drop (k + 3))).2) := fun h => by rw [← HK.out, hr, scan_wrong HSH.out h]
            have hst : (Pick.wrongL (bs.drop (k + 3))).2 = 0 → scanF bs (k + 3 + (Pick.wrongL (bs.drop (k + 3))).1) r = sc := fun h => by rw [← HK.out, hr, scan_step HSH.out h]
            have HSS := Lib.hid hss
            have HST := Lib.hid hst
            have HLE := Lib.hid hle
            clear hrd hod hget hss hst hle hr HSH
            have hld : Hid ((bs.drop (k + 3)).length = n - (k + 3)) := Lib.hid (by rw [List.length_drop, HL.out])
            go_wp2_with fail
            all_goals
              try rw [← h]
              refine (HGT.out _ (by first | exact .inl rfl | exact .inr ⟨by omega, ⟨g, o, none⟩, by congr 1 <;> omega⟩)).mono ?_
              rintro e w2 ⟨k2, v, rfl, hor⟩
              have HOR := Lib.hid hor
              have hK2 := hK.trans k2 (fun _ _ f => f)
              clear hor c8 k2 HGT h
              obtain ⟨x, hx⟩ : ∃ x, Pick.wrongL (bs.drop (k + 3)) = x := ⟨_, rfl⟩
              rw [hx] at HSS HST HLE ⊢
              have HXX := Lib.hid hx
              clear hx
              obtain ⟨x1, x2⟩ := x
              by_cases h0 : x2 = 0
              · subst h0
                have hx1 : x1 ≤ n - (k + 3) := by
                  obtain ⟨hno, -⟩ | ⟨hfacts, hseg⟩ := HOR.out
                  · rw [HXX.out] at hno; exact absurd rfl hno
                  · have h1 := hfacts.2.1
                    have h2 := hfacts.2.2.2.2.1
                    rw [HXX.out] at h1
                    rw [hld.out] at h2
                    have := congrArg Prod.fst h1
                    simp only at this
                    omega
                have hz : ((0 : Int) != 0) = false := rfl
                have HN := Lib.hid (HST.out rfl)
                clear HOR HSS HST HLE
                go_wp2_with fail
                go_roundw
                case rel => exact ⟨t + 1, k + 3 + x1, by omega, by go_num, by go_num, by omega, by rw [hr']; exact HN, hK2⟩
                case measure => simp [intOf]; omega
              · have hz : (x2 != 0) = true := by simpa using h0
                have hx1 := HLE.out h0
                have HW := Lib.hid (HWs.out _ _ (HSS.out h0) h0)
                clear HOR HSS HST HLE
                simp only at hx1 HW
                go_wp2_with fail
                go_ret2
                rw [HW.out]
                exact ⟨by go_num, hK2⟩
        · obtain rfl : t = d := by omega
          have i2 : ¬ (t : Int) < (t : Int) := by omega
          have hs : sc = (k, 0) := by rw [← HK.out, Nat.sub_self]; rfl
          by_cases hkl : k < n
          · have HW := Lib.hid (HWm.out k hs hkl)
            have i4 : (k : Int) < (n : Int) := by omega
            clear hs
            go_wp2_with fail
            go_ret2
            rw [HW.out]
            exact ⟨rfl, hK⟩
          · have HW := Lib.hid (HWn.out k hs hkl)
            have i4 : ¬ (k : Int) < (n : Int) := by omega
            clear hs
            go_wp2_with fail
            go_ret2
            rw [HW.out]
            exact ⟨rfl, hK⟩
  · have hq : (z0 != 82) = true := by simpa using h82
    have HW : Hid (wrongP bs = (0, 1)) := Lib.hid (by rw [wrongP, if_pos (.inr (by rw [hgd0.out]; exact h82))])
    go_wp2_with fail
    go_ret2
    rw [HW.out]
    exact ⟨rfl, Kept.refl _ _⟩
end Go.Proofs.YtaffaliplmfagaaDoor.Line
