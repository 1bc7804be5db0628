/-
  The instruction of a name.
-/
import Derived.Test.YtjpddfnkamahfaaDoorNames
import Derived.Test.YtjpddfnkamahfaaDoorLay12
set_option linter.unusedVariables false
set_option linter.unusedSimpArgs false
namespace Go.Proofs.YtjpddfnkamahfaaDoor.Line
open Go.RowKit Go.Sort Go.Proofs.YtjpddfnkamahfaaDoor.Own Go.Proofs.YtjpddfnkamahfaaDoor.Conv

def opF (l : List UInt8) (k : Nat) : Int := if 0 < k ∧ nameK k = l then (k : Int) else 0
/-- The instruction of a name. -/
def opZ (l : List UInt8) : Int := firstI (opF l) 26
theorem opF_ne {l : List UInt8} {k : Nat} (h : 0 < k ∧ nameK k = l) : opF l k = k := if_pos h
theorem opF_no {l : List UInt8} {k : Nat} (h : ¬ (0 < k ∧ nameK k = l)) : opF l k = 0 := if_neg h
theorem opZ_hit {l : List UInt8} {k : Nat} (h0 : firstI (opF l) k = 0) (hk : k < 26) (h : 0 < k ∧ nameK k = l) : opZ l = k := by
  have e1 : firstI (opF l) (k + 1) = k := by rw [firstI_zero _ _ h0, opF_ne h]
  rw [opZ, firstI_on _ (k + 1) 26 (by omega) (by rw [e1]; omega), e1]
theorem op_next {l : List UInt8} {k : Nat} (h0 : firstI (opF l) k = 0) (h : ¬ (0 < k ∧ nameK k = l)) : firstI (opF l) (k + 1) = 0 := by
  rw [firstI_zero _ _ h0, opF_no h]
theorem opZ_in (l : List UInt8) : opZ l = 0 ∨ (1 ≤ opZ l ∧ opZ l ≤ 25 ∧ nameZ (opZ l) = l) := by
  have gen : ∀ k, k ≤ 26 → firstI (opF l) k = 0 ∨ ∃ q : Nat, firstI (opF l) k = q ∧ 1 ≤ q ∧ q < 26 ∧ nameK q = l := by
    intro k
    induction k with
    | zero => intro _; exact .inl rfl
    | succ k ih =>
      intro hk
      rcases ih (by omega) with h | ⟨q, h, h1, h2⟩
      · by_cases hq : 0 < k ∧ nameK k = l
        · exact .inr ⟨k, by rw [firstI_zero _ _ h, opF_ne hq], by omega, by omega, hq.2⟩
        · exact .inl (op_next h hq)
      · exact .inr ⟨q, by rw [firstI, if_neg (by rw [h]; omega), h], h1, h2⟩
  rcases gen 26 (by omega) with h | ⟨q, h, h1, h2, h3⟩
  · exact .inl h
  · refine .inr ?_
    rw [opZ, h]
    exact ⟨by omega, by omega, by rw [nameZ_in q h2]; exact h3⟩

theorem toList_mk3 {s : ByteArray} {l : List UInt8} (h : (⟨l.toArray⟩ : ByteArray) = s) : s.toList = l := by
  rw [← h, ByteArray.toList_eq]

theorem kidx (k : Nat) (h : k < 26) (w : World) : (Instr.index 66 (.agg kindCells.toArray) (.int .i64 k)).run Tryd.prog w = .ok (.agg #[.string ⟨(nameK k).toArray⟩, .string ⟨(shapeK k).toArray⟩]) w := match k, h with
  | 0, _ => by kernel_rfl
  | 1, _ => by kernel_rfl
  | 2, _ => by kernel_rfl
  | 3, _ => by kernel_rfl
  | 4, _ => by kernel_rfl
  | 5, _ => by kernel_rfl
  | 6, _ => by kernel_rfl
  | 7, _ => by kernel_rfl
  | 8, _ => by kernel_rfl
  | 9, _ => by kernel_rfl
  | 10, _ => by kernel_rfl
  | 11, _ => by kernel_rfl
  | 12, _ => by kernel_rfl
  | 13, _ => by kernel_rfl
  | 14, _ => by kernel_rfl
  | 15, _ => by kernel_rfl
  | 16, _ => by kernel_rfl
  | 17, _ => by kernel_rfl
  | 18, _ => by kernel_rfl
  | 19, _ => by kernel_rfl
  | 20, _ => by kernel_rfl
  | 21, _ => by kernel_rfl
  | 22, _ => by kernel_rfl
  | 23, _ => by kernel_rfl
  | 24, _ => by kernel_rfl
  | 25, _ => by kernel_rfl
  | n + 26, h => by omega

set_option maxRecDepth 100000 in
set_option maxHeartbeats 4000000 in
theorem asmop_is (l : List UInt8) (w : World) : Calls Tryd.prog 17 #[.string ⟨l.toArray⟩] w fun e w' => e = .returned (.int .i64 (opZ l)) ∧ Kept No w w' := by
  obtain ⟨sl, hsl⟩ : ∃ s : ByteArray, (⟨l.toArray⟩ : ByteArray) = s := ⟨_, rfl⟩
  have hl := toList_mk3 hsl
  rw [hsl]
  have HL := Lib.hid hl
  clear hsl hl
  go_enter Tryd.func17, Tryd.ntmps17
  go_wp2_with fail
  refine (kinds_is _).mono ?_
  rintro e w1 ⟨rfl, k1⟩
  have K1 := Lib.hid k1
  clear k1
  go_wp2_with fail
  go_loopw [6] (fun i wr => ∃ k : Nat, k ≤ 26 ∧ i = .int .i64 k ∧ Hid (firstI (opF l) k = 0) ∧ Kept No w wr) (fun i _ => 26 - (intOf i).toNat)
  case atStart => exact ⟨0, by omega, rfl, Lib.hid rfl, K1.out⟩
  case round =>
    obtain ⟨k, hk, rfl, hno, hK⟩ := hrel
    clear K1
    by_cases hlt : k < 26
    · have hi := fun w => kidx k hlt w
      obtain ⟨sn, hsn⟩ : ∃ s : ByteArray, (⟨(nameK k).toArray⟩ : ByteArray) = s := ⟨_, rfl⟩
      obtain ⟨ss, hss⟩ : ∃ s : ByteArray, (⟨(shapeK k).toArray⟩ : ByteArray) = s := ⟨_, rfl⟩
      have hn := toList_mk3 hsn
      rw [hsn, hss] at hi
      have hK2 := hK.alloc (.cells #[.string sn, .string ss] 65)
      clear hsn hss
      generalize hkc : kindCells.toArray = kc at *
      by_cases hz : 0 < k
      · have hg : decide (0 < k) = true := decide_eq_true hz
        by_cases hq : nameK k = l
        · have hss : (sn.toList == sl.toList) = true := by rw [hn, HL.out, hq]; simp
          have HE := Lib.hid (opZ_hit hno.out hlt ⟨hz, hq⟩)
          clear hn hq
          go_wp2_with fail
          go_ret
          exact ⟨by rw [HE.out]; rfl, hK2⟩
        · have hss : (sn.toList == sl.toList) = false := by rw [hn, HL.out]; simp [hq]
          have HE := Lib.hid (op_next hno.out (fun h => hq h.2))
          clear hn hq
          go_wp2_with fail
          go_roundw
          case rel => exact ⟨k + 1, by omega, by go_num, HE, hK2⟩
          case measure => simp [intOf]; omega
      · have hg : decide (0 < k) = false := decide_eq_false hz
        have HE := Lib.hid (op_next hno.out (fun h => hz h.1))
        clear hn
        go_wp2_with fail
        go_roundw
        case rel => exact ⟨k + 1, by omega, by go_num, HE, hK2⟩
        case measure => simp [intOf]; omega
    · obtain rfl : k = 26 := by omega
      have HE : Hid (opZ l = 0) := hno
      go_wp2_with fail
      go_ret
      exact ⟨by rw [HE.out]; rfl, hK⟩

set_option maxRecDepth 100000 in
set_option maxHeartbeats 4000000 in
theorem refop_is (l : List UInt8) (w : World) : Calls Tryd.prog 22 #[.string ⟨l.toArray⟩] w fun e w' => e = .returned (.int .i64 (opZ l)) ∧ Kept No w w' := by
  obtain ⟨sl, hsl⟩ : ∃ s : ByteArray, (⟨l.toArray⟩ : ByteArray) = s := ⟨_, rfl⟩
  have hl := toList_mk3 hsl
  rw [hsl]
  have HL := Lib.hid hl
  clear hsl hl
  go_enter Tryd.func22, Tryd.ntmps22
  go_wp2_with fail
  refine (refwords_is allT allT_len w).mono ?_
  rintro e w1 ⟨k1, v1, rfl, s1⟩
  obtain ⟨_, ao, c, rfl, hc, hm, _, hR⟩ := s1.rd
  rw [words_len] at *
  obtain ⟨g, o, rfl, hg, hcell⟩ := hR (by omega)
  unfold maxLen at hm
  have HC := Lib.hid hcell
  have K1 := Lib.hid k1
  clear hcell hR s1 k1
  go_wp2_with fail
  go_loopw [4] (fun i wr => ∃ k : Nat, k ≤ 25 ∧ i = .int .i64 k ∧ Hid (firstI (opF l) (k + 1) = 0) ∧ Kept No w1 wr) (fun i _ => 25 - (intOf i).toNat)
  case atStart => exact ⟨0, by omega, rfl, Lib.hid rfl, Kept.refl _ _⟩
  case round =>
    obtain ⟨k, hk, rfl, hno, hK⟩ := hrel
    by_cases hlt : k < 25
    · obtain ⟨c1, c2⟩ := wcell (k + 1) (by omega) (by omega)
      rw [show 2 * (k + 1) - 2 = 2 * k by omega] at c1
      obtain ⟨sn, hsn⟩ : ∃ s : ByteArray, (⟨(nameK (k + 1)).toArray⟩ : ByteArray) = s := ⟨_, rfl⟩
      have hn := toList_mk3 hsn
      rw [hsn] at c1
      have d0 : wr.cell? ⟨g, o + 2 * k, none⟩ = some (.string sn) := (hK.cell (p := ⟨g, o + 2 * k, none⟩) hg id).trans (HC.out _ _ c1)
      obtain ⟨j, hj⟩ : ∃ j, 2 * k = j := ⟨_, rfl⟩
      have hj50 : j < 50 := by omega
      have e1 : (2 * (k : Int)) = ((j : Nat) : Int) := by omega
      rw [hj] at d0
      clear c1 c2 hsn hj
      by_cases hq : nameK (k + 1) = l
      · have hss : (sn.toList == sl.toList) = true := by rw [hn, HL.out, hq]; simp
        have HE := Lib.hid (opZ_hit hno.out (by omega) ⟨by omega, hq⟩)
        clear hn hq
        go_wp2_with fail
        go_ret
        exact ⟨by rw [HE.out]; rfl, K1.out.trans hK (fun _ _ f => f)⟩
      · have hss : (sn.toList == sl.toList) = false := by rw [hn, HL.out]; simp [hq]
        have HE := Lib.hid (op_next hno.out (fun h => hq h.2))
        clear hn hq
        go_wp2_with fail
        go_roundw
        case rel => exact ⟨k + 1, by omega, by go_num, HE, hK⟩
        case measure => simp [intOf]; omega
    · obtain rfl : k = 25 := by omega
      have HE : Hid (opZ l = 0) := hno
      go_wp2_with fail
      go_ret
      exact ⟨by rw [HE.out]; rfl, K1.out.trans hK (fun _ _ f => f)⟩
end Go.Proofs.YtjpddfnkamahfaaDoor.Line
