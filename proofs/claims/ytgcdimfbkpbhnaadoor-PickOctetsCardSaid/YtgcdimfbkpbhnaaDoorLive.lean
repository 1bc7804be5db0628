/-
  Package pick's statements: what they reckon of octets; alive.
-/
import Derived.Test.YtgcdimfbkpbhnaaDoorTell
set_option linter.unusedVariables false
namespace Go.Proofs.YtgcdimfbkpbhnaaDoor.Pick
open Go.RowKit Go.Sort Go.Proofs.YtgcdimfbkpbhnaaDoor.Own Go.Proofs.YtgcdimfbkpbhnaaDoor.Oct Go.Proofs.YtgcdimfbkpbhnaaDoor.Conv

theorem rd_take {w : World} {a : Option Addr} {n c : Nat} {bs : List Int} (h : Rd w 1 (.slice a n c) n (bv bs)) (m : Nat) (hm : m ≤ n) : Rd w 1 (.slice a m c) m (bv (bs.take m)) := by
  obtain ⟨hl, a', c', e, hc, hx, hn, hR⟩ := h
  cases e
  rw [bv_len, Nat.mul_one] at hl
  refine ⟨by rw [bv_len]; simp; omega, a, c, rfl, by omega, hx, fun h => by have := hn h; omega, fun h => ?_⟩
  obtain ⟨g, o, e, hg, hcell⟩ := hR (by omega)
  refine ⟨g, o, e, hg, fun j u hu => hcell j u ?_⟩
  simp only [bv, List.map_take, List.getElem?_take] at hu
  split at hu
  · exact hu
  · cases hu

set_option maxHeartbeats 2000000 in
theorem take_is (w : World) (u : Value) (n : Nat) (ts : List Int) (ho : Octs ts) (h : Rd w 1 u n (bv ts)) (h8 : n ≤ 7) :
    Calls Tryd.prog 23 #[u] w fun e w' => e = .returned (.int .i64 (beN ts : Nat)) ∧ w' = w := by
  obtain ⟨hl, a, c, rfl, hc, hm, hnn, hR⟩ := h
  rw [bv_len, Nat.mul_one] at hl
  unfold maxLen at hm
  have HR := Lib.hid hR
  have HT := Lib.hid ho
  clear hR hnn ho
  go_enter Tryd.func23, Tryd.ntmps23
  go_wp2_with fail
  go_loop [3, 4] (fun x i => ∃ m : Nat, m ≤ n ∧ i = .int .i64 m ∧ x = .int .u64 (beN (ts.take m) : Nat)) (fun _ i => n - (intOf i).toNat)
  case atStart => exact ⟨0, by omega, rfl, by simp [beN]⟩
  case round =>
    obtain ⟨m, hm2, rfl, rfl⟩ := hrel
    have hx := beN_lt m ts HT.out
    have hp : 256 ^ m ≤ 256 ^ 7 := Nat.pow_le_pow_right (by omega) (by omega)
    by_cases hmn : m < n
    · obtain ⟨g, o, rfl, hg, hcell⟩ := HR.out (by omega)
      have c1 := hcell m (.int .u8 (ts[m]'(by omega))) (by simp [bv])
      have h2 := HT.out (ts[m]'(by omega)) (List.getElem_mem _)
      have e : ts.take (m + 1) = ts.take m ++ [ts[m]'(by omega)] := by simp
      generalize ts[m]'(by omega) = z at *
      obtain ⟨cn, rfl⟩ : ∃ cn : Nat, z = cn := ⟨z.toNat, by omega⟩
      have E0 := beN_snoc (ts.take m) (cn : Int)
      rw [← e] at E0
      have E1 : IntKind.u64.wrap ((beN (ts.take m) : Int) * 256) = (beN (ts.take m) : Int) * 256 := by rw [IntKind.wrap_u64]; omega
      have E2 : IntKind.u64.wrap (cn : Int) = (cn : Int) := by rw [IntKind.wrap_u64]; omega
      have E3 : IntKind.u64.wrap ((beN (ts.take m) : Int) * 256 + (cn : Int)) = (beN (ts.take m) : Int) * 256 + (cn : Int) := by rw [IntKind.wrap_u64]; omega
      have H0 := Lib.hid E0
      have hx2 : beN (ts.take m) < 72057594037927936 := by omega
      clear hcell e E0 hx hp
      generalize beN (ts.take m) = x at *
      go_wp2_with fail
      go_round
      case rel => exact ⟨m + 1, by omega, by go_num, by rw [H0.out]; congr 1⟩
      case measure => simp [intOf]; omega
    · obtain rfl : m = n := by omega
      rw [List.take_of_length_le (by omega)] at hx ⊢
      have E1 : wrap64 (beN ts : Int) = (beN ts : Int) := by unfold wrap64; omega
      obtain ⟨x, hxe⟩ : ∃ x, beN ts = x := ⟨_, rfl⟩
      rw [hxe] at hx E1 ⊢
      have Hx := Lib.hid hxe
      clear hxe
      go_wp2_with fail
      go_ret
      rw [Hx.out]
      exact ⟨rfl, rfl⟩

set_option maxHeartbeats 2000000 in
theorem wrong_is (w : World) (u : Value) (n : Nat) (bs : List Int) (hoc : Octs bs) (h : Rd w 1 u n (bv bs)) (hlim : n ≤ 1000000) :
    Calls Tryd.prog 12 #[u] w fun e w' => e = .returned (.tuple #[.int .i64 (wrongL bs).1, .int .i64 (wrongL bs).2]) ∧ w' = w := by
  have hl := h.1
  rw [bv_len, Nat.mul_one] at hl
  obtain ⟨a, c, rfl⟩ : ∃ a c, u = .slice a n c := by obtain ⟨_, a, c, h, _⟩ := h; exact ⟨a, c, h⟩
  have hcm : n ≤ c ∧ c ≤ maxLen := by obtain ⟨_, _, _, e, h1, h2, _⟩ := h; cases e; exact ⟨h1, h2⟩
  obtain ⟨hc, hm⟩ := hcm
  unfold maxLen at hm
  have HR := Lib.hid h
  have HO := Lib.hid hoc
  clear h hoc
  go_enter Tryd.func12, Tryd.ntmps12
  by_cases h2 : n < 2
  · have hw : wrongL bs = (bs.length, 1) := by rw [wrongL, if_pos (by omega)]
    rw [hw, hl]
    clear hw
    go_wp2_with fail
    go_ret2
    exact ⟨rfl, rfl⟩
  · have h2b := beN_two bs HO.out
    have hwl : wrongL bs = if 4096 < beN (bs.take 2) then (0, 4) else wrF bs 0 (beN (bs.take 2)) := by rw [wrongL, if_neg (by omega)]
    have Hwl := Lib.hid hwl
    clear hwl
    go_wp2_with fail
    refine (take_is w _ 2 (bs.take 2) (fun c hc => HO.out c (List.mem_of_mem_take hc)) (rd_take HR.out 2 (by omega)) (by omega)).mono ?_
    rintro e w ⟨rfl, rfl⟩
    generalize beN (bs.take 2) = m at *
    by_cases hbig : 4096 < m
    · have hw : wrongL bs = (0, 4) := by rw [Hwl.out, if_pos hbig]
      have Hw := Lib.hid hw
      clear hw
      go_wp2_with fail
      go_ret2
      rw [Hw.out]
      exact ⟨rfl, rfl⟩
    · have hw : wrongL bs = wrF bs 0 m := by rw [Hwl.out, if_neg hbig]
      have Hw := Lib.hid hw
      clear hw
      go_wp2_with fail
      go_loop [5] (fun i => ∃ k : Nat, k ≤ m ∧ i = .int .i64 k ∧ Hid (wrF bs k (m - k) = wrF bs 0 m) ∧ 2 + k ≤ n) (fun i => m - (intOf i).toNat)
      case atStart => exact ⟨0, by omega, rfl, Lib.hid rfl, by omega⟩
      case round =>
        obtain ⟨k, hk, rfl, hwk, hkn⟩ := hrel
        by_cases hlt : k < m
        · have hst := wrF_step bs k (m - k) (by omega)
          have Hst := Lib.hid hst
          clear hst
          by_cases hend : n ≤ 2 + k
          · have hw2 : wrongL bs = (n, 1) := by rw [Hw.out, ← hwk.out, Hst.out, if_pos (by omega), hl]
            have Hw2 := Lib.hid hw2
            clear hw2
            go_wp2_with fail
            go_ret2
            rw [Hw2.out]
            exact ⟨rfl, rfl⟩
          · obtain ⟨_, _, _, e, _, _, _, hR⟩ := HR.out
            cases e
            obtain ⟨g, o, rfl, hg, hcell⟩ := hR (by omega)
            have c1 := hcell (2 + k) (.int .u8 (bs[2 + k]'(by omega))) (by simp [bv, show 2 + k < bs.length by omega])
            have hgd : bs.getD (2 + k) 0 = bs[2 + k]'(by omega) := by simp [List.getD, show 2 + k < bs.length by omega]
            have h3 := HO.out (bs[2 + k]'(by omega)) (List.getElem_mem _)
            have e2 : ((2 : Int) + (k : Int)).toNat = 2 + k := by omega
            have Hgd := Lib.hid hgd
            clear hgd hcell hR
            generalize bs[2 + k]'(by omega) = z at *
            by_cases h7 : 7 < z
            · have hw2 : wrongL bs = (2 + k, 3) := by rw [Hw.out, ← hwk.out, Hst.out, if_neg (by omega), Hgd.out, if_pos h7]
              have Hw2 := Lib.hid hw2
              clear hw2
              go_wp2_with fail
              go_ret2
              rw [Hw2.out]
              exact ⟨rfl, rfl⟩
            · have hw2 : wrF bs (k + 1) (m - (k + 1)) = wrF bs 0 m := by rw [← hwk.out, Hst.out, if_neg (by omega), Hgd.out, if_neg h7, show m - k - 1 = m - (k + 1) by omega]
              have Hw2 := Lib.hid hw2
              clear hw2
              go_wp2_with fail
              go_round
              case rel => exact ⟨k + 1, by omega, by go_num, Hw2, by omega⟩
              case measure => simp [intOf]; omega
        · obtain rfl : k = m := by omega
          have hw2 : wrongL bs = (2 + k, 0) := by rw [Hw.out, ← hwk.out, Nat.sub_self]; rfl
          have Hw2 := Lib.hid hw2
          clear hw2
          go_wp2_with fail
          go_ret2
          rw [Hw2.out]
          exact ⟨rfl, rfl⟩

theorem beB_two (n : Nat) (h : n < 65536) : beB n 2 = [((n / 256 : Nat) : Int), ((n % 256 : Nat) : Int)] := by
  simp [beB, List.range_succ]
  omega

set_option maxHeartbeats 4000000 in
theorem alive_is (w : World) : Calls Tryd.prog 7 #[] w fun e w' => e = .returned (.bool true) ∧ Kept No w w' := by
  go_enter Tryd.func7, Tryd.ntmps7
  go_wp2_with fail
  have r1 : Rd (w.alloc (.cells #[.int .i64 0, .int .i64 3] 3)) 1 (.slice (some ⟨w.heap.size, 0, none⟩) 2 2) 2 (vals [0, 3]) :=
    ⟨rfl, _, _, rfl, by omega, by unfold maxLen; omega, (fun h => by cases h), fun _ => ⟨_, _, rfl, by simp, fun j u hu => by have := cells_new w #[.int .i64 0, .int .i64 3] 3 j u hu; rwa [Addr.add_lit] at this⟩⟩
  have ok03 : okP [0, 3] := fun z hz => by simp at hz; omega
  refine (put_is _ _ 2 [0, 3] r1).mono ?_
  rintro e w1 ⟨k1, ⟨h, _⟩ | ⟨⟨_, h⟩, _⟩ | ⟨_, v1, rfl, hs1⟩⟩
  · omega
  · exact (h ok03).elim
  have K1 : Kept No w w1 := ((Kept.refl No w).alloc _).trans k1 (fun _ _ f => f)
  have hs1' : Seg w1 (w.heap.size + 1) 5 1 v1 4 (bv [0, 2, 0, 3]) := by rw [World.size_alloc] at hs1; exact hs1
  clear hs1 k1 r1 ok03
  have hK1 := Lib.hid K1
  obtain ⟨a1, c1, rfl⟩ : ∃ a c, v1 = .slice a 4 c := by obtain ⟨_, a, c, h, _⟩ := hs1'.rd; exact ⟨a, c, h⟩
  go_wp2_with fail
  refine (get_is w1 _ 4 [0, 2, 0, 3] (fun c hc => by simp at hc; omega) hs1'.rd (by omega)).mono ?_
  have hwl : wrongL [0, 2, 0, 3] = (4, 0) := by decide
  rintro e w2 ⟨k2, v2, rfl, ⟨h, _⟩ | ⟨_, hs2⟩⟩
  · exact (h (by rw [hwl])).elim
  have hs2' : Seg w2 w1.heap.size 3 1 v2 2 (vals [0, 3]) := hs2
  obtain ⟨a2, c2, rfl⟩ : ∃ a c, v2 = .slice a 2 c := by obtain ⟨_, a, c, h, _⟩ := hs2'.rd; exact ⟨a, c, h⟩
  rw [hwl]
  have K2 := K1.trans k2 (fun _ _ f => f)
  have hs12 := hs1'.kept k2 (fun _ _ f => f)
  clear hwl hs2 K1 k2 hs1'
  have ha : agentL [102, 49] 2 = some 3 := by
    rw [agentL, agentFrom_step _ _ 0 (by omega), if_neg (by decide), agentFrom_step _ _ 1 (by omega), if_neg (by decide), agentFrom_step _ _ 2 (by omega), if_neg (by decide), agentFrom_step _ _ 3 (by omega), if_pos (by decide)]
  have Ha := Lib.hid ha
  clear ha
  go_wp2_with fail
  refine (agent_is ⟨#[102, 49]⟩ 2 w2).mono ?_
  rintro e w2 ⟨rfl, rfl⟩
  rw [Ha.out]
  have r3 : Rd (w2.alloc (.cells #[.int .i64 0, .int .i64 0, .int .i64 1, .int .i64 0] 3)) 1 (.slice (some ⟨w2.heap.size, 0, none⟩) 4 4) 4 (vals [0, 0, 1, 0]) :=
    ⟨rfl, _, _, rfl, by omega, by unfold maxLen; omega, (fun h => by cases h), fun _ => ⟨_, _, rfl, by simp, fun j u hu => by have := cells_new w2 #[.int .i64 0, .int .i64 0, .int .i64 1, .int .i64 0] 3 j u hu; rwa [Addr.add_lit] at this⟩⟩
  have k3 := K2.alloc (.cells #[.int .i64 0, .int .i64 0, .int .i64 1, .int .i64 0] 3)
  have hs3 := hs12.kept ((Kept.refl No w2).alloc (.cells #[.int .i64 0, .int .i64 0, .int .i64 1, .int .i64 0] 3)) (fun _ _ f => f)
  go_wp2_with fail
  refine (switches_is _ _ 4 [0, 0, 1, 0] r3).mono ?_
  have hsw : swK [0, 0, 1, 0] 4 = 2 := by decide
  rw [hsw]
  rintro e w4 ⟨rfl, k4⟩
  have K4 := k3.trans k4 (fun _ _ f => f)
  have hs4 := hs3.kept k4 (fun _ _ f => f)
  have hcv := conv_string (P := Tryd.prog) w4 23 9 5 _ 4 [0, 2, 0, 3] Tryd.underlying23 Tryd.underlying5 Tryd.underlying9 hs4.rd
  have hn : nameL 3 2 = [102, 49] := by decide
  clear hsw r3 k3 hs3 k4 hs4 K2 hs12 hs2'
  go_wp2_with (first
    | (go_at_call 8; refine (name_is 3 2 _).mono ?_; rw [hn]; rintro e w4 ⟨rfl, rfl⟩))
  go_ret
  exact ⟨rfl, K4⟩
end Go.Proofs.YtgcdimfbkpbhnaaDoor.Pick
