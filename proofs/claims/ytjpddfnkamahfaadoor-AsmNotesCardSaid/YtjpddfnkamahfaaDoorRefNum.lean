/-
  The reference's number of a text.
-/
import Derived.Test.YtjpddfnkamahfaaDoorRefDec
import Derived.Lib.Strings
set_option linter.unusedVariables false
namespace Go.Proofs.YtjpddfnkamahfaaDoor.Line
open Go.RowKit Go.Proofs.YtjpddfnkamahfaaDoor.Own Go.Proofs.YtjpddfnkamahfaaDoor.Conv

def allD (l : List UInt8) : Prop := ∀ c ∈ l, 48 ≤ c.toNat ∧ c.toNat ≤ 57
instance (l : List UInt8) : Decidable (allD l) := inferInstanceAs (Decidable (∀ c ∈ l, _))
def dgV (l : List UInt8) : Nat := l.foldl (fun a c => (a * 10 + (c.toNat - 48)) % 18446744073709551616) 0
theorem dgV_snoc (l : List UInt8) (c : UInt8) : dgV (l ++ [c]) = (dgV l * 10 + (c.toNat - 48)) % 18446744073709551616 := by simp [dgV]
theorem dgV_lt (l : List UInt8) : dgV l < 18446744073709551616 := by
  rcases List.eq_nil_or_concat l with rfl | ⟨r, c, rfl⟩
  · simp [dgV]
  · rw [List.concat_eq_append, dgV_snoc]; omega
theorem allD_snoc (l : List UInt8) (c : UInt8) : allD (l ++ [c]) ↔ allD l ∧ 48 ≤ c.toNat ∧ c.toNat ≤ 57 := by
  constructor
  · intro h
    exact ⟨fun y hy => h y (by simp [hy]), h c (by simp)⟩
  · rintro ⟨h, hz⟩ y hy
    rcases List.mem_append.1 hy with hy | hy
    · exact h y hy
    · rw [List.mem_singleton] at hy; rw [hy]; exact hz
def digOk (l : List UInt8) : Prop := allD l ∧ 0 < l.length ∧ l.length < 20
instance (l : List UInt8) : Decidable (digOk l) := inferInstanceAs (Decidable (_ ∧ _))
theorem dgV_dec : ∀ (u : Nat), u < 18446744073709551616 → dgV (Lib.decDigits u) = u := by
  intro u
  induction u using Nat.strongRecOn with
  | ind u ih =>
    intro hu
    rw [Lib.decDigits]
    split
    · rename_i h
      have hd := dig_toNat u h
      generalize UInt8.ofNat (48 + u) = c at hd ⊢
      have : dgV ([] ++ [c]) = _ := dgV_snoc [] c
      rw [List.nil_append] at this
      rw [this]
      simp [dgV]
      omega
    · rename_i h
      have hd := dig_toNat (u % 10) (by omega)
      rw [dgV_snoc, ih (u / 10) (by omega) (by omega), hd]
      omega
theorem dec_len19 (u : Nat) (h : u ≤ 9223372036854775808) : 0 < (Lib.decDigits u).length ∧ (Lib.decDigits u).length < 20 := by
  refine ⟨List.length_pos_iff.2 (dec_ne u), ?_⟩
  suffices H : ∀ k u : Nat, 1 ≤ k → u < 10 ^ k → (Lib.decDigits u).length ≤ k from by
    have := H 19 u (by omega) (by omega)
    omega
  intro k
  induction k with
  | zero => intro u h; omega
  | succ k ih =>
    intro u _ hu
    rw [Lib.decDigits]
    split
    · simp <;> omega
    · rename_i h10
      have hk : 1 ≤ k := by
        rcases Nat.eq_zero_or_pos k with h0 | h0
        · subst h0; omega
        · exact h0
      have := ih (u / 10) hk (by rw [Nat.pow_succ] at hu; omega)
      rw [List.length_append]
      simp only [List.length_cons, List.length_nil]
      omega

/-- A text behind its sign. -/
def restOf (l : List UInt8) : List UInt8 := if l.head? = some 45 then l.tail else l
/-- The number that the digits tell. -/
def valOf (l : List UInt8) : Int := if l.head? = some 45 then wrap64 (-(wrap64 (dgV (restOf l) : Nat))) else wrap64 (dgV (restOf l) : Nat)
theorem wrap_bd (z : Int) : -9223372036854775808 ≤ wrap64 z ∧ wrap64 z ≤ 9223372036854775807 := by unfold wrap64; omega
theorem valOf_bd (l : List UInt8) : -9223372036854775808 ≤ valOf l ∧ valOf l ≤ 9223372036854775807 := by
  unfold valOf
  split <;> exact wrap_bd _
theorem rest_itoa (v : Int) (h0 : -9223372036854775808 ≤ v) (h1 : v ≤ 9223372036854775807) : digOk (restOf (Lib.itoa v)) ∧ valOf (Lib.itoa v) = v := by
  by_cases hn : v < 0
  · obtain ⟨u, hu⟩ : ∃ u : Nat, v = -(u : Int) := ⟨v.natAbs, by omega⟩
    subst hu
    rw [Lib.itoa_neg u (by omega)]
    have hr : restOf (45 :: Lib.decDigits u) = Lib.decDigits u := by simp [restOf]
    have hv : valOf (45 :: Lib.decDigits u) = wrap64 (-(wrap64 (dgV (Lib.decDigits u) : Nat))) := by
      unfold valOf
      rw [hr, if_pos (by rfl)]
    rw [hr, hv, dgV_dec u (by omega)]
    refine ⟨⟨dec_digits u, dec_len19 u (by omega)⟩, ?_⟩
    unfold wrap64
    omega
  · obtain ⟨u, hu⟩ : ∃ u : Nat, v = (u : Int) := ⟨v.toNat, by omega⟩
    subst hu
    rw [Lib.itoa_nonneg]
    have hh : ¬ (Lib.decDigits u).head? = some 45 := by
      intro h
      have := dec_digits u 45 (List.mem_of_mem_head? h)
      simp at this
    have hr : restOf (Lib.decDigits u) = Lib.decDigits u := by rw [restOf, if_neg hh]
    have hv : valOf (Lib.decDigits u) = wrap64 (dgV (Lib.decDigits u) : Nat) := by rw [valOf, hr, if_neg hh]
    rw [hr, hv, dgV_dec u (by omega)]
    refine ⟨⟨dec_digits u, dec_len19 u (by omega)⟩, ?_⟩
    unfold wrap64
    omega
theorem ref_number (l : List UInt8) : numberL l = if digOk (restOf l) ∧ Lib.itoa (valOf l) = l then some (valOf l) else none := by
  obtain ⟨b0, b1⟩ := valOf_bd l
  split
  · rename_i h
    exact numberL_some.2 ⟨h.2, b0, b1⟩
  · rename_i h
    cases hn : numberL l with
    | none => rfl
    | some v =>
      obtain ⟨rfl, h0, h1⟩ := numberL_some.1 hn
      obtain ⟨r1, r2⟩ := rest_itoa v h0 h1
      exact (h ⟨r1, by rw [r2]⟩).elim

/-- What the digits tell; 0 where there are others. -/
def digV (l : List UInt8) : Nat := if allD l then dgV l else 0
theorem digV_yes {l : List UInt8} (h : allD l) : digV l = dgV l := if_pos h
theorem digV_no {l : List UInt8} (h : ¬ allD l) : digV l = 0 := if_neg h

set_option maxHeartbeats 4000000 in
theorem digits_is (l : List UInt8) (hl : l.length ≤ 1000000) (w : World) :
    Calls Tryd.prog 42 #[.string ⟨l.toArray⟩] w fun e w' => e = .returned (.tuple #[.int .u64 (digV l : Nat), .bool (decide (digOk l))]) ∧ w' = w := by
  obtain ⟨s0, hs0⟩ : ∃ s : ByteArray, (⟨l.toArray⟩ : ByteArray) = s := ⟨_, rfl⟩
  have hsz : s0.size = l.length := by rw [← hs0]; simp [ByteArray.size]
  have hget : ∀ k (h : k < s0.size) (h2 : k < l.length), s0[k]'h = l[k] := by subst hs0; intro k h h2; rfl
  rw [hs0]
  have Hsz := Lib.hid hsz
  have Hget := Lib.hid hget
  have hlen : s0.size ≤ 1000000 := by omega
  clear hs0 hsz hget
  go_enter Tryd.func42, Tryd.ntmps42
  go_wp2_with fail
  go_loop [4, 5] (fun n i => ∃ k : Nat, k ≤ s0.size ∧ i = .int .i64 k ∧ n = .int .u64 (dgV (l.take k) : Nat) ∧ Hid (allD (l.take k))) (fun _ i => s0.size - (intOf i).toNat)
  case atStart => exact ⟨0, by omega, rfl, by simp [dgV], Lib.hid (fun c hc => by simp at hc)⟩
  case round =>
    obtain ⟨k, hk, rfl, rfl, hall⟩ := hrel
    by_cases hlt : k < s0.size
    · have hlt2 : k < l.length := by have := Hsz.out; omega
      have hg := Hget.out k hlt hlt2
      have htk : l.take (k + 1) = l.take k ++ [l[k]] := by simp
      have hst := dgV_snoc (l.take k) l[k]
      have hal := allD_snoc (l.take k) l[k]
      rw [← htk] at hst hal
      have hmem : l[k] ∈ l := List.getElem_mem _
      have hx := dgV_lt (l.take k)
      generalize l[k] = c at *
      have hc := c.toNat_lt
      generalize dgV (l.take k) = x at *
      by_cases hd : 48 ≤ c.toNat ∧ c.toNat ≤ 57
      · obtain ⟨d0, d1⟩ := hd
        have Hal := Lib.hid (hal.2 ⟨hall.out, d0, d1⟩)
        have e1 : IntKind.u8.wrap ((c.toNat : Int) - 48) = (c.toNat : Int) - 48 := by rw [IntKind.wrap_u8]; omega
        have e2 : IntKind.u64.wrap ((c.toNat : Int) - 48) = (c.toNat : Int) - 48 := by rw [IntKind.wrap_u64]; omega
        have e3 : IntKind.u64.wrap (IntKind.u64.wrap ((x : Int) * 10) + ((c.toNat : Int) - 48)) = ((dgV (l.take (k + 1)) : Nat) : Int) := by
          rw [hst, IntKind.wrap_u64, IntKind.wrap_u64]; omega
        have i0 : (48 : Int) ≤ (c.toNat : Int) := by omega
        have i1 : (c.toNat : Int) ≤ 57 := by omega
        clear hal hst htk hmem
        go_wp2_with fail
        go_round
        case rel => exact ⟨k + 1, by omega, by go_num, rfl, Hal⟩
        case measure => simp [intOf]; omega
      · have hno : ¬ allD l := fun h => hd (h c hmem)
        have hno2 : decide (digOk l) = false := decide_eq_false (fun h => hno h.1)
        have Hno := Lib.hid hno
        have Hno2 := Lib.hid hno2
        clear hno hno2 hal hst htk
        by_cases h48 : c.toNat < 48
        · have i0 : (c.toNat : Int) < 48 := by omega
          clear hd
          go_wp2_with fail
          go_ret2
          rw [digV_no Hno.out, Hno2.out]
          exact ⟨rfl, rfl⟩
        · have i0 : (48 : Int) ≤ (c.toNat : Int) := by omega
          have i1 : (57 : Int) < (c.toNat : Int) := by omega
          clear hd
          go_wp2_with fail
          go_ret2
          rw [digV_no Hno.out, Hno2.out]
          exact ⟨rfl, rfl⟩
    · have hkl : l.take k = l := List.take_of_length_le (by have := Hsz.out; omega)
      rw [hkl] at hall ⊢
      have hd : digOk l ↔ 0 < s0.size ∧ s0.size < 20 := ⟨fun h => by have := Hsz.out; have := h.2; omega, fun h => ⟨hall.out, by have := Hsz.out; omega⟩⟩
      have Hd := Lib.hid hd
      obtain ⟨x, hx⟩ : ∃ x, dgV l = x := ⟨_, rfl⟩
      have Hx := Lib.hid hx
      rw [hx]
      clear hd hkl hx
      by_cases h1 : 0 < s0.size
      · by_cases h2 : s0.size < 20
        · have hdd : decide ((s0.size : Int) < 20) = true := by simp; omega
          go_wp2_with fail
          go_ret2
          rw [digV_yes hall.out, Hx.out, decide_eq_true (Hd.out.2 ⟨h1, h2⟩)]
          exact ⟨rfl, rfl⟩
        · have hdd : decide ((s0.size : Int) < 20) = false := by simp; omega
          go_wp2_with fail
          go_ret2
          rw [digV_yes hall.out, Hx.out, decide_eq_false (fun h => h2 (Hd.out.1 h).2)]
          exact ⟨rfl, rfl⟩
      · go_wp2_with fail
        go_ret2
        rw [digV_yes hall.out, Hx.out, decide_eq_false (fun h => h1 (Hd.out.1 h).1)]
        exact ⟨rfl, rfl⟩

theorem toList_mk {s : ByteArray} {l : List UInt8} (h : (⟨l.toArray⟩ : ByteArray) = s) : s.toList = l := by
  subst h
  rw [ByteArray.toList_eq]

set_option maxHeartbeats 4000000 in
theorem refnum_is (l : List UInt8) (hl : l.length ≤ 1000000) (w : World) :
    Calls Tryd.prog 24 #[.string ⟨l.toArray⟩] w fun e w' => e = .returned (.tuple #[.int .i64 ((numberL l).getD 0), .bool (numberL l).isSome]) ∧ Kept No w w' := by
  have hrf := ref_number l
  obtain ⟨b0, b1⟩ := valOf_bd l
  obtain ⟨s0, hs0⟩ : ∃ s : ByteArray, (⟨l.toArray⟩ : ByteArray) = s := ⟨_, rfl⟩
  have hsz : s0.size = l.length := by rw [← hs0]; simp [ByteArray.size]
  have hget : ∀ k (h : k < s0.size) (h2 : k < l.length), s0[k]'h = l[k] := by subst hs0; intro k h h2; rfl
  have hlen : s0.size ≤ 1000000 := by omega
  have htl := toList_mk hs0
  rw [hs0]
  have HS := Lib.hid hs0
  have Hrf := Lib.hid hrf
  have Hsz := Lib.hid hsz
  have Hget := Lib.hid hget
  have Htl := Lib.hid htl
  clear hrf hsz hget htl hs0
  by_cases hneg : l.head? = some 45
  case pos =>
    obtain ⟨r, hr⟩ : ∃ r, l = 45 :: r := by
      cases l with
      | nil => cases hneg
      | cons c r => simp at hneg; subst hneg; exact ⟨r, rfl⟩
    have hre : restOf l = r := by rw [restOf, if_pos hneg, hr]; rfl
    have hval : valOf l = wrap64 (-(wrap64 (dgV r : Nat))) := by unfold valOf; rw [if_pos hneg, hre]
    have hll : l.length = r.length + 1 := by rw [hr]; rfl
    have h1 : 0 < s0.size := by rw [Hsz.out]; omega
    have h0 : (0 : Int) < s0.size := by omega
    have hc0 : s0[0]'h1 = 45 := by rw [Hget.out 0 h1 (by omega)]; simp [hr]
    have hrl : r.length ≤ 1000000 := by omega
    obtain ⟨sr, hsr⟩ : ∃ sr, s0.extract 1 s0.size = sr := ⟨_, rfl⟩
    have hsr2 : sr = ⟨r.toArray⟩ := by
      rw [← hsr, Hsz.out, ← HS.out, Lib.extract_eq, hr]
      simp
    have hlt : sr.size < s0.size := by rw [hsr2, Hsz.out]; simp [ByteArray.size]; omega
    have hdg := digits_is r hrl w
    rw [← hsr2] at hdg
    have Hre := Lib.hid hre
    have Hval := Lib.hid hval
    have Hdg := Lib.hid hdg
    obtain ⟨v, hv⟩ : ∃ v, valOf l = v := ⟨_, rfl⟩
    have Hv := Lib.hid hv
    rw [hv] at b0 b1
    clear hneg hre hval hll hr hsr2 hdg hv
    go_enter Tryd.func24, Tryd.ntmps24
    go_wp2_with fail
    refine Hdg.out.mono ?_
    rintro e w ⟨rfl, rfl⟩
    have hnl : numberL l = if digOk r ∧ Lib.itoa v = l then some v else none := by rw [Hrf.out, Hre.out, Hv.out]
    have Hnl := Lib.hid hnl
    clear hnl
    by_cases hok : digOk r
    · rw [decide_eq_true hok, digV_yes hok.1]
      have e2 : wrap64 (-(wrap64 (dgV r : Nat))) = v := by rw [← Hv.out, Hval.out]
      have Hok := Lib.hid hok
      generalize dgV r = D at *
      clear hok
      go_wp2_with fail
      refine (refdec_is v b0 b1 w).mono ?_
      rintro e w1 ⟨rfl, k1⟩
      have K1 := Lib.hid k1
      have HE := Lib.hid e2
      clear k1 e2
      by_cases heq : Lib.itoa v = l
      · have h1 : (Lib.itoa v == s0.toList) = true := by rw [Htl.out]; simp [heq]
        have h2 : (Lib.itoa v != s0.toList) = false := by rw [Htl.out]; simp [heq]
        have Heq := Lib.hid heq
        clear heq
        go_wp2_with fail
        go_ret2
        rw [Hnl.out, if_pos ⟨Hok.out, Heq.out⟩]
        refine ⟨?_, K1.out⟩
        show Ending.returned (.tuple #[.int .i64 (wrap64 (-(wrap64 (D : Int)))), .bool true]) = Ending.returned (.tuple #[.int .i64 v, .bool true])
        rw [HE.out]
      · have h1 : (Lib.itoa v == s0.toList) = false := by rw [Htl.out]; simp [heq]
        have h2 : (Lib.itoa v != s0.toList) = true := by rw [Htl.out]; simp [heq]
        have Heq := Lib.hid heq
        clear heq
        go_wp2_with fail
        go_ret2
        rw [Hnl.out, if_neg (fun h => Heq.out h.2)]
        exact ⟨rfl, K1.out⟩
    · rw [decide_eq_false hok]
      have Hok := Lib.hid hok
      generalize digV r = D at *
      clear hok
      go_wp2_with fail
      go_ret2
      rw [Hnl.out, if_neg (fun h => Hok.out h.1)]
      exact ⟨rfl, Kept.refl _ _⟩
  case neg =>
    have hre : restOf l = l := by rw [restOf, if_neg hneg]
    have hval : valOf l = wrap64 (dgV l : Nat) := by unfold valOf; rw [if_neg hneg, hre]
    have hdg := digits_is l hl w
    rw [HS.out] at hdg
    have Hre := Lib.hid hre
    have Hval := Lib.hid hval
    have Hdg := Lib.hid hdg
    obtain ⟨v, hv⟩ : ∃ v, valOf l = v := ⟨_, rfl⟩
    have Hv := Lib.hid hv
    rw [hv] at b0 b1
    have hnl : numberL l = if digOk l ∧ Lib.itoa v = l then some v else none := by rw [Hrf.out, Hre.out, Hv.out]
    have Hnl := Lib.hid hnl
    have hz : s0.size = 0 ∨ ∃ (h1 : 0 < s0.size), ((((s0[0]'h1).toNat : Int)) == 45) = false := by
      rcases Nat.eq_zero_or_pos s0.size with h | h
      · exact .inl h
      · refine .inr ⟨h, ?_⟩
        have hl1 : 0 < l.length := by have := Hsz.out; omega
        rw [Hget.out 0 h hl1, beq_eq_false_iff_ne]
        intro e
        refine hneg ?_
        rw [List.head?_eq_getElem?, List.getElem?_eq_getElem hl1]
        congr 1
        exact UInt8.toNat_inj.1 (Int.ofNat.inj e)
    clear hneg hre hval hdg hv hnl
    rcases hz with hz | ⟨h1, hc⟩
    case' inl =>
      have hg0 : decide ((0 : Int) < s0.size) = false := by rw [hz]; rfl
      have hg1 : ¬ (0 : Int) < s0.size := by omega
    case' inr =>
      have hg0 : (0 : Int) < s0.size := by omega
    all_goals
      go_enter Tryd.func24, Tryd.ntmps24
      go_wp2_with fail
      refine Hdg.out.mono ?_
      rintro e w ⟨rfl, rfl⟩
      by_cases hok : digOk l
      · rw [decide_eq_true hok, digV_yes hok.1]
        have e2 : wrap64 (dgV l : Nat) = v := by rw [← Hv.out, Hval.out]
        have Hok := Lib.hid hok
        generalize dgV l = D at *
        clear hok
        go_wp2_with fail
        refine (refdec_is v b0 b1 w).mono ?_
        rintro e w1 ⟨rfl, k1⟩
        have K1 := Lib.hid k1
        have HE := Lib.hid e2
        clear k1 e2
        by_cases heq : Lib.itoa v = l
        · have h1 : (Lib.itoa v == s0.toList) = true := by rw [Htl.out]; simp [heq]
          have h2 : (Lib.itoa v != s0.toList) = false := by rw [Htl.out]; simp [heq]
          have Heq := Lib.hid heq
          clear heq
          go_wp2_with fail
          go_ret2
          rw [Hnl.out, if_pos ⟨Hok.out, Heq.out⟩]
          refine ⟨?_, K1.out⟩
          show Ending.returned (.tuple #[.int .i64 (wrap64 (D : Int)), .bool true]) = Ending.returned (.tuple #[.int .i64 v, .bool true])
          rw [HE.out]
        · have h1 : (Lib.itoa v == s0.toList) = false := by rw [Htl.out]; simp [heq]
          have h2 : (Lib.itoa v != s0.toList) = true := by rw [Htl.out]; simp [heq]
          have Heq := Lib.hid heq
          clear heq
          go_wp2_with fail
          go_ret2
          rw [Hnl.out, if_neg (fun h => Heq.out h.2)]
          exact ⟨rfl, K1.out⟩
      · rw [decide_eq_false hok]
        have Hok := Lib.hid hok
        generalize digV l = D at *
        clear hok
        go_wp2_with fail
        go_ret2
        rw [Hnl.out, if_neg (fun h => Hok.out h.1)]
        exact ⟨rfl, Kept.refl _ _⟩
end Go.Proofs.YtjpddfnkamahfaaDoor.Line
