/-
  The statements' fine and May.
-/
import Derived.Test.YtaffaliplmfagaaGreatDoorPap2
import Derived.BigQuiet
set_option linter.unusedVariables false
set_option linter.unusedSimpArgs false
namespace Go.Proofs.YtaffaliplmfagaaGreatDoor.Line
open Go.RowKit Go.Sort Go.Proofs.YtaffaliplmfagaaGreatDoor.Own Go.Proofs.YtaffaliplmfagaaGreatDoor.Conv Go.Proofs.YtaffaliplmfagaaGreatDoor.Calm

def fineR (k i j : Int) (zs : List Int) : Bool := isKey k i j && decide ((zs.length : Int) > 0) && allIn zs
theorem fineR_eq {k i j : Int} {zs : List Int} (h : zs.length ≤ 4096) : fineR k i j zs = fineB k i j zs := by
  rw [fineR, fineB, Bool.and_assoc]
  congr 2
  simp only [decide_eq_decide]
  omega

set_option maxRecDepth 100000 in
set_option maxHeartbeats 8000000 in
theorem lawfine_is (k i j : Int) (v : Value) (n : Nat) (zs : List Int) (w : World) (h : Rd w 1 v n (vals zs)) :
    Calls Tryz.prog 17 #[.agg #[.int .i64 k, .int .i64 i, .int .i64 j, v]] w fun e w' => e = .returned (.bool (fineR k i j zs)) ∧ Kept No w w' := by
  have hl : zs.length = n := by have := h.len; rw [vals_len] at this; omega
  obtain ⟨-, ao, cap, rfl, hc, hm, -, hcell⟩ := id h
  unfold maxLen at hm
  obtain ⟨b1, hb1⟩ : ∃ b, isKey k i j = b := ⟨_, rfl⟩
  obtain ⟨b2, hb2⟩ : ∃ b, decide ((n : Int) > 0) = b := ⟨_, rfl⟩
  have hE : fineR k i j zs = (b1 && b2 && allIn zs) := by rw [fineR, hb1, hl, hb2]
  have h1 := fun w => is_is k i j w
  rw [hb1] at h1
  rw [hE]
  have H1 := Lib.hid h1
  have HL := Lib.hid hl
  have HC := Lib.hid hcell
  have hx := Box.new w #[.int .i64 k, .int .i64 i, .int .i64 j, .slice ao n cap] 48
  have hk := (Kept.refl No w).alloc (.cells #[.int .i64 k, .int .i64 i, .int .i64 j, .slice ao n cap] 48)
  have HX := Lib.hid hx
  have HK := Lib.hid hk
  clear hb1 hE h1 h hl hx hk hcell
  go_enter Tryz.func17, Tryz.ntmps17
  go_upto_region 1 with fail
  generalize w.alloc (.cells #[.int .i64 k, .int .i64 i, .int .i64 j, .slice ao n cap] 48) = w0 at *
  have c0 : w0.cell? ⟨w.heap.size, 0, none⟩ = some (.int .i64 k) := HX.out.cell 0
  have c1 : w0.cell? ⟨w.heap.size, 1, none⟩ = some (.int .i64 i) := HX.out.cell 1
  have c2 : w0.cell? ⟨w.heap.size, 2, none⟩ = some (.int .i64 j) := HX.out.cell 2
  go_wp2_with fail
  refine (H1.out _).mono ?_
  rintro e w1 ⟨rfl, k1⟩
  have c3 : w1.cell? ⟨w.heap.size, 3, none⟩ = some (.slice ao n cap) := (HX.out.kept k1 id).cell 3
  have HX1 := Lib.hid (HX.out.kept k1 id)
  have HK1 := Lib.hid (HK.out.trans k1 (fun _ _ f => f))
  clear c0 c1 c2 k1 H1 HX HK
  cases b1
  case' false =>
    obtain ⟨q, hq⟩ : ∃ q, false = q := ⟨_, rfl⟩
    have hqq : Hid ((false && b2 && allIn zs) = (q && allIn zs)) := Lib.hid (by rw [← hq]; rfl)
  case' true =>
    obtain ⟨q, hq⟩ : ∃ q, decide (0 < n) = q := ⟨_, rfl⟩
    have hqq : Hid ((true && b2 && allIn zs) = (q && allIn zs)) := Lib.hid (by rw [← hq, ← hb2]; simp)
  all_goals
    have HQ := Lib.hid hq
    clear hq hb2
    go_wp2_with fail
    go_loopw [3, 4] (fun a i wr => ∃ t : Nat, t ≤ n ∧ i = .int .i64 t ∧ a = .bool (q && allIn (zs.take t)) ∧ Kept No w1 wr) (fun _ i _ => n - (intOf i).toNat)
    case atStart => exact ⟨0, by omega, rfl, by rw [← HQ.out]; simp [allIn], Kept.refl _ _⟩
    case round =>
      clear c3
      obtain ⟨t, ht, rfl, rfl, hK⟩ := hrel
      have c3 : wr.cell? ⟨w.heap.size, 3, none⟩ = some (.slice ao n cap) := (HX1.out.kept hK id).cell 3
      obtain ⟨bx, hbx⟩ : ∃ b, (q && allIn (zs.take t)) = b := ⟨_, rfl⟩
      have HBX := Lib.hid hbx
      rw [hbx]
      clear hbx
      by_cases hlt : t < n
      · obtain ⟨g, o, rfl, hg, hcell⟩ := HC.out (by omega)
        obtain ⟨x, hx⟩ : ∃ x, zs[t]? = some x := ⟨_, List.getElem?_eq_getElem (by have := HL.out; omega)⟩
        have cx : wr.cell? ⟨g, o + t, none⟩ = some (.int .i64 x) := ((HK1.out.trans hK (fun _ _ f => f)).cell (p := ⟨g, o + t, none⟩) hg id).trans (hcell t _ (by rw [vals, List.getElem?_map, hx]; rfl))
        have hn1 : Hid ((q && allIn (zs.take (t + 1))) = (bx && inB x)) := Lib.hid (by rw [← HBX.out, List.take_add_one, hx]; simp [allIn, Bool.and_assoc])
        clear hcell hx
        cases bx with
        | false =>
          have hn2 : Hid ((q && allIn (zs.take (t + 1))) = false) := Lib.hid (by rw [hn1.out]; rfl)
          go_wp2_with fail
          go_roundw
          case rel => exact ⟨t + 1, by omega, by go_num, by rw [hn2.out], hK⟩
          case measure => simp [intOf]; omega
        | true =>
          by_cases h0 : 0 ≤ x
          · by_cases h7 : x ≤ 7
            · have hn2 : Hid ((q && allIn (zs.take (t + 1))) = true) := Lib.hid (by rw [hn1.out]; simp [inB, h0, h7])
              go_wp2_with fail
              go_roundw
              case rel => exact ⟨t + 1, by omega, by go_num, by rw [hn2.out], hK⟩
              case measure => simp [intOf]; omega
            · have hn2 : Hid ((q && allIn (zs.take (t + 1))) = false) := Lib.hid (by rw [hn1.out]; simp [inB]; omega)
              go_wp2_with fail
              go_roundw
              case rel => exact ⟨t + 1, by omega, by go_num, by rw [hn2.out], hK⟩
              case measure => simp [intOf]; omega
          · have hn2 : Hid ((q && allIn (zs.take (t + 1))) = false) := Lib.hid (by rw [hn1.out]; simp [inB]; omega)
            go_wp2_with fail
            go_roundw
            case rel => exact ⟨t + 1, by omega, by go_num, by rw [hn2.out], hK⟩
            case measure => simp [intOf]; omega
      · obtain rfl : t = n := by omega
        have hend : Hid ((q && allIn zs) = bx) := Lib.hid (by rw [← HBX.out, List.take_of_length_le (by have := HL.out; omega)])
        go_wp2_with fail
        go_ret
        exact ⟨by rw [hqq.out, hend.out]; rfl, HK1.out.trans hK (fun _ _ f => f)⟩
end Go.Proofs.YtaffaliplmfagaaGreatDoor.Line
