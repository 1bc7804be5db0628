/-
  Where octets are wrong, plainly, as the statement says it.
-/
import Derived.Test.YtknpjhmgkogmaaaDoorConf11
import Derived.Test.YtknpjhmgkogmaaaDoorConf6
import Derived.BigQuiet
set_option linter.unusedVariables false
namespace Go.Proofs.YtknpjhmgkogmaaaDoor.Line
open Go.RowKit Go.Sort Go.Proofs.YtknpjhmgkogmaaaDoor.Own Go.Proofs.YtknpjhmgkogmaaaDoor.Conv Go.Proofs.YtknpjhmgkogmaaaDoor.Calm Go.Proofs.YtknpjhmgkogmaaaDoor.Oct

set_option maxHeartbeats 4000000 in
theorem take_is (w : World) (u : Value) (n : Nat) (b : List Int) (hoc : Octs b) (h : Rd w 1 u n (bv b)) (hn : n ≤ 7) :
    Calls Tryd.prog 44 #[u] w fun e w' => e = .returned (.int .i64 (beN b : Nat)) ∧ Kept No w w' := by
  obtain ⟨hl, a, c, rfl, hc, hm, hnn, hR⟩ := h
  rw [bv_len, Nat.mul_one] at hl
  unfold maxLen at hm
  have HR := Lib.hid hR
  have HO := Lib.hid hoc
  have HL := Lib.hid hl
  clear hR hoc hnn hl
  go_enter Tryd.func44, Tryd.ntmps44
  go_wp2_with fail
  go_loopw [3, 4] (fun x i wr => ∃ k : Nat, k ≤ n ∧ i = .int .i64 k ∧ x = .int .u64 (beN (b.take k) : Nat) ∧ Kept No w wr) (fun _ i _ => n - (intOf i).toNat)
  case atStart => exact ⟨0, by omega, rfl, by simp [beN], Kept.refl _ _⟩
  case round =>
    obtain ⟨k, hk, rfl, rfl, hK⟩ := hrel
    have hb8 := beN_lt k b HO.out
    have h7 : 256 ^ k ≤ 256 ^ 7 := Nat.pow_le_pow_right (by omega) (by omega)
    by_cases hlt : k < n
    · obtain ⟨g, o, rfl, hg, hcell⟩ := HR.out (by omega)
      have hkl : k < b.length := by have := HL.out; omega
      have c1 : wr.cell? ⟨g, o + k, none⟩ = some (.int .u8 b[k]) := (hK.cell (p := ⟨g, o + k, none⟩) hg id).trans (hcell k _ (by simp [bv, hkl]))
      have hz := HO.out b[k] (List.getElem_mem _)
      have e : b.take (k + 1) = b.take k ++ [b[k]] := by simp
      have E0 := beN_snoc (b.take k) b[k]
      rw [← e] at E0
      have hlt7 : k + 1 ≤ 7 := by omega
      have hb9 := beN_lt k b HO.out
      have h6 : 256 ^ k ≤ 256 ^ 6 := Nat.pow_le_pow_right (by omega) (by omega)
      generalize b[k] = z at *
      obtain ⟨zn, rfl⟩ : ∃ zn : Nat, z = zn := ⟨z.toNat, by omega⟩
      have E0' := Lib.hid E0
      generalize beN (b.take k) = x at *
      have E1 : IntKind.u64.wrap ((x : Int) * 256) = (x : Int) * 256 := by rw [IntKind.wrap_u64]; omega
      have E2 : IntKind.u64.wrap (zn : Int) = (zn : Int) := by rw [IntKind.wrap_u64]; omega
      have E3 : IntKind.u64.wrap ((x : Int) * 256 + (zn : Int)) = (x : Int) * 256 + (zn : Int) := by rw [IntKind.wrap_u64]; omega
      clear hcell E0 e
      go_wp2_with fail
      go_roundw
      case rel => exact ⟨k + 1, by omega, by go_num, by rw [E0'.out]; congr 1, hK⟩
      case measure => simp [intOf]; omega
    · obtain rfl : k = n := by omega
      rw [List.take_of_length_le (by have := HL.out; omega)] at hb8 ⊢
      have hw : IntKind.i64.wrap ((beN b : Nat) : Int) = ((beN b : Nat) : Int) := by rw [IntKind.wrap_i64]; omega
      obtain ⟨y, hy⟩ : ∃ y, beN b = y := ⟨_, rfl⟩
      rw [hy] at hw ⊢
      have HY := Lib.hid hy
      clear hy
      go_wp2_with fail
      go_ret
      rw [HY.out]
      exact ⟨rfl, hK⟩

def mostA : Array Value := #[.int .i64 3, .int .i64 1, .int .i64 8, .int .i64 16, .int .i64 4, .int .i64 3]
def leastA : Array Value := #[.int .i64 0, .int .i64 0, .int .i64 1, .int .i64 0, .int .i64 1, .int .i64 1]
theorem most_at (k : Nat) (h : k < 6) : mostA[k]? = some (.int .i64 (fHi k)) ∧ leastA[k]? = some (.int .i64 (fLo k)) := by
  have : k = 0 ∨ k = 1 ∨ k = 2 ∨ k = 3 ∨ k = 4 ∨ k = 5 := by omega
  rcases this with rfl | rfl | rfl | rfl | rfl | rfl <;> exact ⟨rfl, rfl⟩
theorem beN_get' (bs : List Int) (h : Octs bs) (k : Nat) (hk : k < bs.length) : ((beN ((bs.drop k).take 1) : Nat) : Int) = bs.getD k 0 ∧ bs[k]? = some (bs.getD k 0) := by
  have e : (bs.drop k).take 1 = [bs[k]] := by
    rw [List.drop_eq_getElem_cons hk]
    rfl
  rw [e, List.getD_eq_getElem?_getD, List.getElem?_eq_getElem hk]
  have := h bs[k] (List.getElem_mem _)
  simp [beN]
  omega
theorem gV_small (b : List Int) (h : Octs b) (k : Nat) (h6 : k < 6) (hk : k < b.length) : gV b k = b.getD k 0 := by
  have h1 : gOff k = k := by unfold gOff; rw [if_pos (by omega)]
  have h2 : fW k = 1 := by unfold fW; rw [if_pos h6]
  rw [gV, h1, h2]
  exact (beN_get' b h k hk).1

set_option maxRecDepth 100000 in
set_option maxHeartbeats 8000000 in
theorem wrong_is (w : World) (u : Value) (n : Nat) (b : List Int) (hoc : Octs b) (h : Rd w 1 u n (bv b)) :
    Calls Tryd.prog 20 #[u] w fun e w' => e = .returned (.tuple #[.int .i64 (getW b).1, .int .i64 (getW b).2]) ∧ Kept No w w' := by
  obtain ⟨hl, a, c, rfl, hc, hm, hnn, hR⟩ := h
  rw [bv_len, Nat.mul_one] at hl
  unfold maxLen at hm
  have HR := Lib.hid hR
  have HO := Lib.hid hoc
  have HL := Lib.hid hl
  clear hR hoc hnn hl
  have hb1 := (Box.new w mostA 3).alloc (.cells leastA 3)
  have hb2 := Box.new (w.alloc (.cells mostA 3)) leastA 3
  have hk0 : Kept No w ((w.alloc (.cells mostA 3)).alloc (.cells leastA 3)) := ((Kept.refl _ _).alloc _).alloc _
  simp only [World.size_alloc] at hb2
  obtain ⟨w0, hw0⟩ : ∃ W, (w.alloc (.cells mostA 3)).alloc (.cells leastA 3) = W := ⟨_, rfl⟩
  rw [hw0] at hb1 hb2 hk0
  unfold mostA leastA at hw0
  have HW0 := Lib.hid hw0
  clear hw0
  go_enter Tryd.func20, Tryd.ntmps20
  go_upto_region 3 with fail
  rw [HW0.out]
  clear HW0
  go_wp2_with fail
  go_loopw [6] (fun i wr => ∃ k : Nat, k ≤ 6 ∧ i = .int .i64 k ∧ Kept No w wr ∧ Box wr w.heap.size mostA 3 ∧ Box wr (w.heap.size + 1) leastA 3 ∧ Hid (getF b k (7 - k) = getW b)) (fun i _ => 6 - (intOf i).toNat)
  case atStart => exact ⟨0, by omega, rfl, hk0, hb1, hb2, Lib.hid rfl⟩
  case round =>
    obtain ⟨k, hk6, rfl, hK, h1, h2, HG⟩ := hrel
    clear hk0 hb1 hb2
    have hst := getF_step b k (7 - k) (by omega)
    rw [HG.out] at hst
    have HST := Lib.hid hst
    clear hst
    by_cases hlt : k < 6
    · have hoff : gOff k = k := by unfold gOff; rw [if_pos (by omega)]
      have hfw : fW k = 1 := by unfold fW; rw [if_pos hlt]
      have HOF := Lib.hid hoff
      have HFW := Lib.hid hfw
      clear hoff hfw
      by_cases hkn : k < n
      · obtain ⟨g, o, rfl, hg, hcell⟩ := HR.out (by omega)
        have hkl : k < b.length := by have := HL.out; omega
        obtain ⟨ez, hbk⟩ := beN_get' b HO.out k hkl
        have hgv := gV_small b HO.out k hlt hkl
        obtain ⟨m1, m2⟩ := most_at k hlt
        obtain ⟨z, hz⟩ : ∃ z, b.getD k 0 = z := ⟨_, rfl⟩
        rw [hz] at hbk hgv ez
        have hzo := HO.out z (List.mem_of_getElem? hbk)
        have c1 : ∀ nq, (wr.drewN nq).cell? ⟨g, o + k, none⟩ = some (.int .u8 z) := fun nq => ((hK.drewN nq).cell (p := ⟨g, o + k, none⟩) hg id).trans (hcell k _ (by simp [bv, hbk]))
        have c2 : ∀ nq, (wr.drewN nq).cell? ⟨w.heap.size, k, none⟩ = some (.int .i64 (fHi k)) := fun nq => (h1.cell k).trans m1
        have c3 : ∀ nq, (wr.drewN nq).cell? ⟨w.heap.size + 1, k, none⟩ = some (.int .i64 (fLo k)) := fun nq => (h2.cell k).trans m2
        have i1 : (k : Int) < (n : Int) := by omega
        have i2 : (k : Int) < 6 := by omega
        have HGV := Lib.hid hgv
        obtain ⟨hi, hhi⟩ : ∃ x, fHi k = x := ⟨_, rfl⟩
        obtain ⟨lo, hlo⟩ : ∃ x, fLo k = x := ⟨_, rfl⟩
        rw [hhi] at c2
        rw [hlo] at c3
        have HHI := Lib.hid hhi
        have HLO := Lib.hid hlo
        clear hcell hbk hgv ez m1 m2 hz hhi hlo
        by_cases ha : hi < z
        · have hW : getW b = (k, 3) := by
            rw [HST.out, HOF.out, HFW.out, if_neg (by omega), HGV.out, HHI.out, if_pos (.inr ha)]
          have HWB := Lib.hid hW
          have hd : decide (hi < z) = true := decide_eq_true ha
          clear hW
          go_wp2_with fail
          go_quiet (fail)
          go_wp2_with fail
          go_ret2
          rw [HWB.out]
          exact ⟨rfl, hK.drewN _⟩
        · have hd : decide (hi < z) = false := decide_eq_false ha
          by_cases hb : z < lo
          · have hW : getW b = (k, 3) := by
              rw [HST.out, HOF.out, HFW.out, if_neg (by omega), HGV.out, HLO.out, if_pos (.inl hb)]
            have HWB := Lib.hid hW
            have hd2 : decide (z < lo) = true := decide_eq_true hb
            clear hW
            go_wp2_with fail
            go_quiet (fail)
            go_wp2_with fail
            go_ret2
            rw [HWB.out]
            exact ⟨rfl, hK.drewN _⟩
          · have hd2 : decide (z < lo) = false := decide_eq_false hb
            go_wp2_with fail
            go_quiet (fail)
            go_wp2_with fail
            go_roundw
            case rel =>
              refine ⟨k + 1, by omega, by go_num, hK.drewN _, h1, h2, Lib.hid ?_⟩
              rw [HST.out, HOF.out, HFW.out, if_neg (by omega), HGV.out, HHI.out, HLO.out, if_neg (by omega), Nat.sub_sub]
            case measure => simp [intOf]; omega
      · have hW : getW b = (b.length, 1) := by
          rw [HST.out, HOF.out, HFW.out, if_pos (by have := HL.out; omega)]
        have HWB := Lib.hid hW
        clear hW
        go_wp2_with fail
        go_ret2
        rw [HWB.out, HL.out]
        exact ⟨rfl, hK⟩
    · obtain rfl : k = 6 := by omega
      have hst : getW b = if b.length - 6 < 3 then (b.length, 1) else if gV b 6 < 0 ∨ 1048576 < gV b 6 then (6, 3) else if b.length < 10 ∨ 1 < b.getD 9 0 then (9, 1) else if 10 < b.length then (10, 1) else (10, 0) := HST.out
      have HS := Lib.hid hst
      clear hst HST h1 h2 HG
      by_cases h9 : n < 9
      · have hW : getW b = (b.length, 1) := by rw [HS.out, if_pos (by have := HL.out; omega)]
        have HWB := Lib.hid hW
        clear hW
        go_wp2_with fail
        go_ret2
        rw [HWB.out, HL.out]
        exact ⟨rfl, hK⟩
      · obtain ⟨g, o, rfl, hg, hcell⟩ := HR.out (by omega)
        have hcr : ∀ j, j < n → wr.cell? ⟨g, o + j, none⟩ = some (.int .u8 (b.getD j 0)) := fun j hj => (hK.cell (p := ⟨g, o + j, none⟩) hg id).trans (hcell j _ (by
          have := (beN_get' b HO.out j (by have := HL.out; omega)).2
          rw [bv, List.getElem?_map, this]
          rfl))
        have hrd : Rd wr 1 (.slice (some ⟨g, o + 6, none⟩) 3 (c - 6)) 3 (bv ((b.drop 6).take 3)) := by
          refine ⟨?_, _, c - 6, rfl, by omega, by unfold maxLen; omega, (fun h => by cases h), fun _ => ⟨g, o + 6, rfl, Nat.lt_of_lt_of_le hg hK.size, fun j u hu => ?_⟩⟩
          · have := HL.out
            simp [bv]
            omega
          · rw [hK.cell (p := ⟨g, o + 6 + j, none⟩) hg id, Nat.add_assoc]
            refine hcell (6 + j) u ?_
            have hj : j < 3 := by
              have := (List.getElem?_eq_some_iff.1 hu).1
              simp [bv] at this
              omega
            rw [← hu]
            simp only [bv, List.map_take, List.map_drop, List.getElem?_take, List.getElem?_drop]
            rw [if_pos hj]
        have hoc3 : Octs ((b.drop 6).take 3) := fun c hc => HO.out c (List.mem_of_mem_drop (List.mem_of_mem_take hc))
        have hgv : gV b 6 = ((beN ((b.drop 6).take 3) : Nat) : Int) := rfl
        have HTK := Lib.hid (take_is wr (.slice (some ⟨g, o + 6, none⟩) 3 (c - 6)) 3 ((b.drop 6).take 3) hoc3 hrd (by omega))
        have HGV := Lib.hid hgv
        have HCR := Lib.hid hcr
        obtain ⟨y, hy⟩ : ∃ y, beN ((b.drop 6).take 3) = y := ⟨_, rfl⟩
        rw [hy] at HTK HGV
        have b1 : (9 : Int) ≤ (c : Int) := by omega
        clear hcell hrd hoc3 hgv hcr hy
        go_wp2_with fail
        refine HTK.out.mono ?_
        rintro e w2 ⟨rfl, k2⟩
        have hK2 := hK.trans k2 (fun _ _ f => f)
        by_cases hbig : 1048576 < y
        · have hW : getW b = (6, 3) := by rw [HS.out, if_neg (by have := HL.out; omega), HGV.out, if_pos (.inr (by omega))]
          have HWB := Lib.hid hW
          have hbi : (1048576 : Int) < (y : Int) := by omega
          clear hW
          go_wp2_with fail
          go_ret2
          rw [HWB.out]
          exact ⟨rfl, hK2⟩
        · have hst : getW b = if b.length < 10 ∨ 1 < b.getD 9 0 then (9, 1) else if 10 < b.length then (10, 1) else (10, 0) := by
            rw [HS.out, if_neg (by have := HL.out; omega), HGV.out, if_neg (by omega)]
          have HS2 := Lib.hid hst
          have hbi : ¬ (1048576 : Int) < (y : Int) := by omega
          clear hst HS
          by_cases h10 : n < 10
          · have hW : getW b = (9, 1) := by rw [HS2.out, if_pos (.inl (by have := HL.out; omega))]
            have HWB := Lib.hid hW
            have hd : decide ((n : Int) < 10) = true := decide_eq_true (by omega)
            clear hW
            go_wp2_with fail
            go_ret2
            rw [HWB.out]
            exact ⟨rfl, hK2⟩
          · have hd : decide ((n : Int) < 10) = false := decide_eq_false (by omega)
            have c9 : w2.cell? ⟨g, o + 9, none⟩ = some (.int .u8 (b.getD 9 0)) := (k2.cell (p := ⟨g, o + 9, none⟩) (Nat.lt_of_lt_of_le hg hK.size) id).trans (HCR.out 9 (by omega))
            obtain ⟨z, hz⟩ : ∃ z, b.getD 9 0 = z := ⟨_, rfl⟩
            rw [hz] at c9
            have HZ := Lib.hid hz
            have b2 : (9 : Int) < (n : Int) := by omega
            clear hz
            by_cases hz1 : 1 < z
            · have hW : getW b = (9, 1) := by rw [HS2.out, HZ.out, if_pos (.inr hz1)]
              have HWB := Lib.hid hW
              clear hW
              go_wp2_with fail
              go_ret2
              rw [HWB.out]
              exact ⟨rfl, hK2⟩
            · by_cases h11 : 10 < n
              · have hW : getW b = (10, 1) := by rw [HS2.out, HZ.out, if_neg (by have := HL.out; omega), if_pos (by have := HL.out; omega)]
                have HWB := Lib.hid hW
                have b3 : (10 : Int) < (n : Int) := by omega
                clear hW
                go_wp2_with fail
                go_ret2
                rw [HWB.out]
                exact ⟨rfl, hK2⟩
              · have hW : getW b = (10, 0) := by rw [HS2.out, HZ.out, if_neg (by have := HL.out; omega), if_neg (by have := HL.out; omega)]
                have HWB := Lib.hid hW
                have b3 : ¬ (10 : Int) < (n : Int) := by omega
                clear hW
                go_wp2_with fail
                go_ret2
                rw [HWB.out]
                exact ⟨rfl, hK2⟩

theorem beB_beN (x y z : Int) (h : Octs [x, y, z]) : beB (beN [x, y, z]) 3 = [x, y, z] := by
  have h0 := h x (by simp)
  have h1 := h y (by simp)
  have h2 := h z (by simp)
  have e : (beN [x, y, z] : Nat) = (x.toNat * 256 + y.toNat) * 256 + z.toNat := by simp [beN]
  rw [e]
  simp only [beB, List.range_succ, List.range_zero, List.nil_append, List.cons_append, List.map_cons, List.map_nil]
  congr 1
  · omega
  · congr 1
    · omega
    · congr 1
      omega
/-- What is got, put, is the octets. -/
theorem put_got {b : List Int} (ho : Octs b) (hl : b.length = 10) (hok : (isCfg (gV b 0) (gV b 1) (gV b 2) (gV b 3) (gV b 4) && isAsk (gV b 5) (gV b 6)) = true) (h9 : b.getD 9 0 = 0 ∨ b.getD 9 0 = 1) :
    putL (gV b 0) (gV b 1) (gV b 2) (gV b 3) (gV b 4) (gV b 5) (gV b 6) (b.getD 9 0 == 1) = b := by
  rw [Bool.and_eq_true] at hok
  rw [putL_eq hok.1 hok.2, gV_small b ho 0 (by omega) (by omega), gV_small b ho 1 (by omega) (by omega), gV_small b ho 2 (by omega) (by omega), gV_small b ho 3 (by omega) (by omega), gV_small b ho 4 (by omega) (by omega), gV_small b ho 5 (by omega) (by omega)]
  have e6 : gV b 6 = ((beN ((b.drop 6).take 3) : Nat) : Int) := rfl
  rw [e6, Int.toNat_natCast]
  match b, hl with
  | [x0, x1, x2, x3, x4, x5, x6, x7, x8, x9], _ =>
    have e3 : ([x0, x1, x2, x3, x4, x5, x6, x7, x8, x9].drop 6).take 3 = [x6, x7, x8] := rfl
    rw [e3, beB_beN x6 x7 x8 (fun c hc => ho c (by
      simp only [List.mem_cons, List.not_mem_nil, or_false] at hc ⊢
      rcases hc with rfl | rfl | rfl <;> simp))]
    have e9 : (if ([x0, x1, x2, x3, x4, x5, x6, x7, x8, x9].getD 9 0 == 1) then (1 : Int) else 0) = x9 := by
      have h9' : x9 = 0 ∨ x9 = 1 := h9
      have : [x0, x1, x2, x3, x4, x5, x6, x7, x8, x9].getD 9 0 = x9 := rfl
      rw [this]
      rcases h9' with rfl | rfl <;> rfl
    rw [e9]
    rfl
end Go.Proofs.YtknpjhmgkogmaaaDoor.Line
