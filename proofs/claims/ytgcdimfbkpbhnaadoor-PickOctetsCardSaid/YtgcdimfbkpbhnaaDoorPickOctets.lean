/-
  PickOctets answers true, whatever the schedule and the octets are. Condition: the three tables that the row lists lie as their initialisers lay them.
-/
import Derived.Test.YtgcdimfbkpbhnaaDoorSwLaw
import Derived.BigQuiet
import Derived.Deep.DeepCutAuto
import Derived.Deep.CutBlock
import Derived.Test.YtgcdimfbkpbhnaaDoorDoor
import Derived.Test.YtgcdimfbkpbhnaaDoorOpen
import Derived.Test.YtgcdimfbkpbhnaaDoorCards
import Derived.Test.YtgcdimfbkpbhnaaDoorTie
set_option linter.unusedVariables false
namespace Go.Proofs.YtgcdimfbkpbhnaaDoor.pickOctets
open Go.RowKit Go.Sort Go.Proofs.YtgcdimfbkpbhnaaDoor.Own Go.Proofs.YtgcdimfbkpbhnaaDoor.Pick Go.Proofs.YtgcdimfbkpbhnaaDoor.Oct Go.Proofs.YtgcdimfbkpbhnaaDoor.Conv

theorem beN_beB (n : Nat) (h : n < 65536) : beN (beB n 2) = n := by
  rw [beB_two n h]
  simp [beN]
  omega
theorem beB_of (bs : List Int) (ho : Octs bs) (h : 2 ≤ bs.length) : beB (beN (bs.take 2)) 2 = bs.take 2 := by
  obtain ⟨x, y, r, rfl⟩ : ∃ x y r, bs = x :: y :: r := by
    match bs, h with
    | x :: y :: r, _ => exact ⟨x, y, r, rfl⟩
  have hx := ho x (by simp)
  have hy := ho y (by simp)
  have e : beN [x, y] = x.toNat * 256 + y.toNat := by simp [beN]
  simp only [List.take_succ_cons, List.take_zero]
  rw [e, beB_two _ (by omega)]
  congr 1
  · omega
  · congr 1; omega
theorem wrF_ok (bs : List Int) (n : Nat) (hn : 2 + n ≤ bs.length) (h : okP ((bs.drop 2).take n)) : ∀ d k, k + d = n → wrF bs k d = (2 + n, 0)
  | 0, k, e => by rw [wrF]; simp; omega
  | d + 1, k, e => by
    have hm : bs.getD (2 + k) 0 ∈ (bs.drop 2).take n := by
      rw [List.mem_take_iff_getElem]
      exact ⟨k, by simp; omega, by simp [List.getD, show 2 + k < bs.length by omega]⟩
    have := h _ hm
    rw [wrF, if_neg (by omega), if_neg (by omega)]
    exact wrF_ok bs n hn h d (k + 1) (by omega)
theorem again (zs bs : List Int) (h : okP zs) (hn : zs.length ≤ 80) : wrongL (beB zs.length 2 ++ zs ++ bs) = (2 + zs.length, 0) ∧ beN ((beB zs.length 2 ++ zs ++ bs).take 2) = zs.length ∧ ((beB zs.length 2 ++ zs ++ bs).drop 2).take zs.length = zs := by
  have hb : (beB zs.length 2).length = 2 := by simp [beB]
  have e2 : (beB zs.length 2 ++ zs ++ bs).take 2 = beB zs.length 2 := by rw [List.append_assoc, List.take_append_of_le_length (by omega), List.take_of_length_le (by omega)]
  have e3 : beN ((beB zs.length 2 ++ zs ++ bs).take 2) = zs.length := by rw [e2, beN_beB _ (by omega)]
  have e4 : ((beB zs.length 2 ++ zs ++ bs).drop 2).take zs.length = zs := by
    rw [List.append_assoc, List.drop_append_of_le_length (by omega), List.drop_of_length_le (by omega), List.nil_append, List.take_append_of_le_length (by omega), List.take_length]
  refine ⟨?_, e3, e4⟩
  rw [wrongL, if_neg (by simp; omega), e3, if_neg (by omega)]
  exact wrF_ok _ _ (by simp; omega) (by rw [e4]; exact h) _ 0 (by omega)
theorem back (bs : List Int) (ho : Octs bs) (h : 2 ≤ bs.length) (m : Nat) (hm : beN (bs.take 2) = m) : beB m 2 ++ (bs.drop 2).take m = bs.take (2 + m) := by
  rw [← hm, beB_of bs ho h, List.take_add]
theorem okP_snoc (zs : List Int) (z : Int) : okP (zs ++ [z]) ↔ okP zs ∧ 0 ≤ z ∧ z ≤ 7 := by
  constructor
  · intro h
    exact ⟨fun y hy => h y (by simp [hy]), h z (by simp)⟩
  · rintro ⟨h, hz⟩ y hy
    rcases List.mem_append.1 hy with hy | hy
    · exact h y hy
    · simp at hy; subst hy; exact hz
instance (zs : List Int) : Decidable (okP zs) := inferInstanceAs (Decidable (∀ z ∈ zs, _))

set_option maxHeartbeats 8000000 in
set_option maxRecDepth 100000 in
theorem walk (w : World) (hT : Door.Tabs w) (lv : Value) (ln : Nat) (zs0 : List Int) (hr0 : Rd w 1 lv ln (vals zs0)) (wf0 : ∀ z ∈ zs0, (Lit.int .i64 z).wf = true) (bv0 : Value) (bn : Nat) (bs0 : List Int) (hb0 : Rd w 1 bv0 bn (bs0.map (Value.int .u8))) (wf1 : ∀ z ∈ bs0, (Lit.int .u8 z).wf = true) :
    Calls Tryd.prog 4 #[lv, bv0] w fun e w' => e = .returned (.bool true) ∧ Below w.heap.size w w' := by
  obtain ⟨i0, hi, hz0, hz1, hz2⟩ := info_parts info_byte
  have ho0 : Octs bs0 := fun c hc => Open.wf_u8_bd (wf1 c hc)
  change Rd w 1 bv0 bn (bv bs0) at hb0
  have hbl := hb0.1
  rw [bv_len, Nat.mul_one] at hbl
  clear wf0 wf1
  obtain ⟨ab, cb, rfl⟩ : ∃ a c, bv0 = .slice a bn c := by obtain ⟨_, a, c, h, _⟩ := hb0; exact ⟨a, c, h⟩
  have hbm : bn ≤ cb ∧ cb ≤ maxLen := by obtain ⟨_, _, _, e, h1, h2, _⟩ := hb0; cases e; exact ⟨h1, h2⟩
  obtain ⟨hbc, hbm⟩ := hbm
  unfold maxLen at hbm
  have Hb0 := Lib.hid hb0
  have Ho0 := Lib.hid ho0
  clear hb0 ho0
  go_enter Tryd.func4, Tryd.ntmps4
  go_wp2_with fail
  refine (alive_is w).mono ?_
  rintro e w1 ⟨rfl, k1⟩
  go_wp2_with fail
  refine (few_is w1 _ ln zs0 (hr0.kept k1 (fun _ _ => id))).mono ?_
  rintro e w1 ⟨⟨v, n, rfl, hn, hr⟩, rfl⟩
  have hl := hr.1
  rw [vals_len, Nat.mul_one] at hl
  obtain ⟨a, c, rfl⟩ : ∃ a c, v = .slice a n c := by obtain ⟨_, a, c, h, _⟩ := hr; exact ⟨a, c, h⟩
  generalize zs0.take 80 = zs at *
  have Hr := Lib.hid hr
  have Hl := Lib.hid hl
  have HB := Lib.hid (Hb0.out.kept k1 (fun _ _ => id))
  have HK1 := Lib.hid k1
  clear hr hr0 hl k1
  go_upto_if 26 with fail
  go_cut [1] from 24 to 28 (fun v wr => ∃ (nb : Nat) (bs : List Int) (cb : Nat), v = .slice ab nb cb ∧ nb ≤ 300 ∧ nb ≤ cb ∧ cb ≤ 9223372036854775807 ∧ Hid (Rd w1 1 (.slice ab nb cb) nb (bv bs)) ∧ Hid (Octs bs) ∧ wr = w1)
  case first =>
    by_cases h300 : 300 < bn
    · obtain ⟨_, _, _, e0, _, _, _, hR⟩ := HB.out
      cases e0
      obtain ⟨g, o, rfl, hg, hcell⟩ := hR (by omega)
      clear hcell hR
      go_wp2_with fail
      go_meet
      case rel => exact ⟨300, bs0.take 300, cb, rfl, by omega, by omega, by omega, Lib.hid (rd_take HB.out 300 (by omega)), Lib.hid (fun c hc => Ho0.out c (List.mem_of_mem_take hc)), rfl⟩
    · go_wp2_with fail
      go_meet
      case rel => exact ⟨bn, bs0, cb, rfl, by omega, hbc, by omega, HB, Ho0, rfl⟩
  case rest =>
    obtain ⟨nb, bs, cb', rfl, hnb, hnc, hcm, HB1, HO, rfl⟩ := hcut
    clear HB Hb0 Ho0
    have hbl := HB1.out.1
    rw [bv_len, Nat.mul_one] at hbl
    have Hbl := Lib.hid hbl
    clear hbl
    go_wp2_with fail
    refine (get_is wc _ nb bs HO.out HB1.out (by omega)).mono ?_
    rintro e w2 ⟨k2, vg, rfl, hg2⟩
    obtain ⟨at_, hat⟩ : ∃ x, (wrongL bs).1 = x := ⟨_, rfl⟩
    obtain ⟨er, her⟩ : ∃ x, (wrongL bs).2 = x := ⟨_, rfl⟩
    rw [her] at hg2
    rw [hat, her]
    have HB2 := Lib.hid (HB1.out.kept k2 (fun _ _ => id))
    have Hr2 := Lib.hid (Hr.out.kept k2 (fun _ _ => id))
    have HK2 := Lib.hid (HK1.out.trans k2 (fun _ _ f => f))
    have Hat := Lib.hid hat
    have Her := Lib.hid her
    have Hg2 := Lib.hid hg2
    clear k2 hat her hg2 HB1 Hr HK1
    go_wp2_with fail
    refine (wrong_is w2 _ nb bs HO.out HB2.out (by omega)).mono ?_
    rw [Hat.out, Her.out]
    rintro e w2 ⟨rfl, rfl⟩
    have key : er = 0 ∨ er ≠ 0 := Classical.em _
    rcases key with h0 | h0
    case' inl =>
      subst h0
      have hgot : (wrongL bs = (2 + beN (bs.take 2), 0) ∧ 2 ≤ bs.length ∧ beN (bs.take 2) ≤ 4096 ∧ 2 + beN (bs.take 2) ≤ bs.length ∧ okP ((bs.drop 2).take (beN (bs.take 2)))) ∧ Seg w2 wc.heap.size 3 1 vg (beN (bs.take 2)) (vals ((bs.drop 2).take (beN (bs.take 2)))) := by
        rcases Hg2.out with ⟨h, _⟩ | ⟨⟨_, h1, h2, h3, h4, h5⟩, h6⟩
        · exact (h rfl).elim
        · exact ⟨⟨h1, h2, h3, h4, h5⟩, h6⟩
      obtain ⟨⟨g1, g2, g3, g4, g5⟩, hs⟩ := hgot
      obtain ⟨m, hm⟩ : ∃ m, beN (bs.take 2) = m := ⟨_, rfl⟩
      rw [hm] at g1 g3 g4 g5 hs
      have hback := back bs HO.out g2 m hm
      obtain ⟨ag, cg, rfl⟩ : ∃ a c, vg = .slice a m c := by obtain ⟨_, a, c, h, _⟩ := hs.rd; exact ⟨a, c, h⟩
      have ha : at_ = 2 + m := by have := Hat.out; rw [g1] at this; exact this.symm
      have hab : at_ ≤ nb := by have := Hbl.out; omega
      have Hs := Lib.hid hs
      have Hback := Lib.hid hback
      have Ha := Lib.hid ha
      have G5 := Lib.hid g5
      clear hs hback ha g1 g5 hm Hg2 g4
      go_wp2_with fail
      refine (put_is w2 _ m _ Hs.out.rd).mono ?_
      rintro e w4 ⟨k4, ⟨h, _⟩ | ⟨⟨_, h⟩, _⟩ | ⟨_, v4, rfl, hs4⟩⟩
      · omega
      · exact (h G5.out).elim
      rw [Hback.out] at hs4
      obtain ⟨a4, c4, rfl⟩ : ∃ a c, v4 = .slice a (m + 2) c := by obtain ⟨_, a, c, h, _⟩ := hs4.rd; exact ⟨a, c, h⟩
      have HB4 := Lib.hid (HB2.out.kept k4 (fun _ _ => id))
      have Hr4 := Lib.hid (Hr2.out.kept k4 (fun _ _ => id))
      have HK4 := Lib.hid (HK2.out.trans k4 (fun _ _ f => f))
      have hoc : Octs (bs.take (2 + m)) := fun c hc => HO.out c (List.mem_of_mem_take hc)
      have hbc := u8s_cells _ hoc
      have hcv1 : ∀ nq, (convert 23 9 (.slice a4 (m + 2) c4)).run Tryd.prog (w4.drewN nq) = .ok (.string ⟨(u8s (bs.take (2 + m))).toArray⟩) (w4.drewN nq) := fun nq =>
        conv_string (P := Tryd.prog) _ _ _ 5 _ (m + 2) _ Tryd.underlying23 Tryd.underlying5 Tryd.underlying9 (by rw [hbc]; exact (hs4.drewN nq).rd)
      have hcv2 : ∀ nq, (convert 23 9 (.slice ab at_ cb')).run Tryd.prog (w4.drewN nq) = .ok (.string ⟨(u8s (bs.take (2 + m))).toArray⟩) (w4.drewN nq) := fun nq =>
        conv_string (P := Tryd.prog) _ _ _ 5 _ at_ _ Tryd.underlying23 Tryd.underlying5 Tryd.underlying9 (by rw [hbc, ← Ha.out]; exact ((rd_take HB4.out at_ hab).kept ((Kept.refl No w4).drewN nq) (fun _ _ => id)))
      have hsame : ((u8s (bs.take (2 + m))) == (u8s (bs.take (2 + m)))) = true := by simp
      clear hbc hoc hs4 k4 HB2 Hr2 HK2 Hs
      generalize u8s (bs.take (2 + m)) = S at *
      go_wp2_with fail
      go_quiet (fail)
      go_upto_region 14 with fail
      have HB5 := Lib.hid (HB4.out.kept ((Kept.refl No w4).drewN nq) (fun _ _ => id))
      have Hr5 := Lib.hid (Hr4.out.kept ((Kept.refl No w4).drewN nq) (fun _ _ => id))
      have HK5 := Lib.hid (HK4.out.drewN nq)
      clear hcv1 hcv2 HB4 Hr4 HK4
      generalize w4.drewN nq = w5 at *
    case' inr =>
      obtain rfl : vg = .slice none 0 0 := by
        rcases Hg2.out with ⟨_, h⟩ | ⟨⟨h, _⟩, _⟩
        · exact h
        · exact (h0 h).elim
      have hb1 : (er != 0) = true := by simp [h0]
      have hb2 : (er == 0) = false := by simp [h0]
      have HB5 := Lib.hid HB2.out
      have Hr5 := Lib.hid Hr2.out
      have HK5 := Lib.hid HK2.out
      clear HB2 Hr2 HK2 h0 Hg2
      go_upto_region 14 with fail
    all_goals
      go_wp2_with fail
      go_loop [12, 13] (fun f ik => ∃ k : Nat, k ≤ n ∧ ik = .int .i64 k ∧ f = .bool (decide (okP (zs.take k)))) (fun _ ik => n - (intOf ik).toNat)
      case atStart => exact ⟨0, by omega, rfl, by rw [decide_eq_true (p := okP (zs.take 0)) (fun z hz => by simp at hz)]⟩
      case round =>
        obtain ⟨k, hk, rfl, rfl⟩ := hrel
        by_cases hlt : k < n
        · obtain ⟨_, _, _, e0, _, _, _, hR⟩ := Hr5.out
          cases e0
          obtain ⟨g, o, rfl, hg, hcell⟩ := hR (by omega)
          have hl := Hl.out
          have c1 := hcell k (.int .i64 (zs[k]'(by omega))) (by simp [vals, show k < zs.length by omega])
          have htk : zs.take (k + 1) = zs.take k ++ [zs[k]'(by omega)] := by simp
          generalize zs[k]'(by omega) = z at *
          have hsn := okP_snoc (zs.take k) z
          rw [← htk] at hsn
          have Hsn := Lib.hid hsn
          clear hsn htk hl hcell hR
          by_cases hf : okP (zs.take k)
          · rw [decide_eq_true hf]
            by_cases z0 : 0 ≤ z
            · by_cases z7 : z ≤ 7
              · have hd : decide (okP (zs.take (k + 1))) = true := decide_eq_true (Hsn.out.2 ⟨hf, z0, z7⟩)
                have Hd := Lib.hid hd
                clear hd hf
                go_wp2_with fail
                go_round
                case rel => exact ⟨k + 1, by omega, by go_num, by rw [Hd.out]⟩
                case measure => simp [intOf]; omega
              · have hd : decide (okP (zs.take (k + 1))) = false := decide_eq_false (fun h => z7 (Hsn.out.1 h).2.2)
                have Hd := Lib.hid hd
                clear hd hf
                go_wp2_with fail
                go_round
                case rel => exact ⟨k + 1, by omega, by go_num, by rw [Hd.out]⟩
                case measure => simp [intOf]; omega
            · have hd : decide (okP (zs.take (k + 1))) = false := decide_eq_false (fun h => z0 (Hsn.out.1 h).2.1)
              have Hd := Lib.hid hd
              clear hd hf
              go_wp2_with fail
              go_round
              case rel => exact ⟨k + 1, by omega, by go_num, by rw [Hd.out]⟩
              case measure => simp [intOf]; omega
          · rw [decide_eq_false hf]
            have hd : decide (okP (zs.take (k + 1))) = false := decide_eq_false (fun h => hf (Hsn.out.1 h).1)
            have Hd := Lib.hid hd
            clear hd hf
            go_wp2_with fail
            go_round
            case rel => exact ⟨k + 1, by omega, by go_num, by rw [Hd.out]⟩
            case measure => simp [intOf]; omega
        · obtain rfl : k = n := by omega
          have htk : zs.take k = zs := List.take_of_length_le (by rw [Hl.out]; omega)
          rw [htk]
          clear htk
          have K5 := HK5.out.size
          by_cases hf : okP zs
          · rw [decide_eq_true hf]
            have Hf := Lib.hid hf
            clear hf
            go_wp2_with fail
            refine (put_is _ _ k zs Hr5.out).mono ?_
            rintro e w6 ⟨k6, ⟨h, _⟩ | ⟨⟨_, h⟩, _⟩ | ⟨_, v6, rfl, hs6⟩⟩
            · omega
            · exact (h Hf.out).elim
            obtain ⟨a6, c6, rfl⟩ : ∃ a c, v6 = .slice a (k + 2) c := by obtain ⟨_, a, c, h, _⟩ := hs6.rd; exact ⟨a, c, h⟩
            have HB6 := Lib.hid (HB5.out.kept k6 (fun _ _ => id))
            have Hr6 := Lib.hid (Hr5.out.kept k6 (fun _ _ => id))
            have HK6 := Lib.hid (HK5.out.trans k6 (fun _ _ f => f))
            have Hs6 := Lib.hid (hs6.mono K5)
            have hz6 := HK6.out.size
            have HS6 := Lib.hid hs6
            have HK56 := Lib.hid k6
            clear hs6 k6 HB5
            go_wp2_with (at_builtin; refine wpList_append_rd rfl _ _ 23 rfl w.heap.size 5 i0 (.int .u8 0) 1 1 Tryd.underlying23 hi hz0 hz1 hz2 rfl (by decide) _ _ _ rfl Hs6.out _ nb (bv bs) rfl HB6.out (bv_one _) (by unfold maxLen; omega) (by omega) hz6 ?_)
            intro v7 w7 hs7 hg7 hb7
            have k57 := HK56.out.grown hg7 (fun g hlt hg => by have := (HS6.out.lt g hg).1; omega)
            have HK7 := Lib.hid (HK5.out.trans k57 (fun _ _ f => f))
            have Hr7 := Lib.hid (Hr5.out.kept k57 (fun _ _ => id))
            have hag := again zs bs Hf.out (by rw [Hl.out]; omega)
            have ho7 : Octs (beB k 2 ++ zs ++ bs) := octs_app (octs_app (beB_octs k 2) Hf.out.octs) HO.out
            rw [Hl.out] at hag
            rw [← bv_app] at hs7
            obtain ⟨X, hX⟩ : ∃ X, beB k 2 ++ zs ++ bs = X := ⟨_, rfl⟩
            rw [hX] at hs7 hag ho7
            obtain ⟨x1, x2, x3⟩ := hag
            have y1 : (wrongL X).1 = k + 2 := by rw [x1]; simp only; omega
            have y2 : (wrongL X).2 = 0 := by rw [x1]
            have Hs7 := Lib.hid hs7
            have Ho7 := Lib.hid ho7
            have Hx2 := Lib.hid x2
            have Hx3 := Lib.hid x3
            have Hy1 := Lib.hid y1
            have Hy2 := Lib.hid y2
            obtain ⟨a7, c7, rfl⟩ : ∃ a c, v7 = .slice a (k + 2 + nb) c := by obtain ⟨_, a, c, h, _⟩ := hs7.rd; exact ⟨a, c, h⟩
            clear hs7 hg7 hb7 k57 ho7 hX x1 x2 x3 y1 y2 HK56 HS6 Hr5 HK5 Hr6 HK6 HB6 Hs6
            go_wp2_with fail
            refine (get_is w7 _ _ X Ho7.out Hs7.out.rd (by omega)).mono ?_
            rintro e w8 ⟨k8, v8, rfl, ⟨h, _⟩ | ⟨_, hs8⟩⟩
            · exact (h Hy2.out).elim
            rw [Hx2.out, Hx3.out] at hs8
            rw [Hy1.out, Hy2.out]
            have HK8 := Lib.hid (HK7.out.trans k8 (fun _ _ f => f))
            have Hr8 := Lib.hid (Hr7.out.kept k8 (fun _ _ => id))
            have Hs8 := Lib.hid hs8
            obtain ⟨a8, c8, rfl⟩ : ∃ a c, v8 = .slice a k c := by obtain ⟨_, a, c, h, _⟩ := hs8.rd; exact ⟨a, c, h⟩
            clear hs8 k8 HK7 Hr7
            go_wp2_with fail
            refine (ints_is w8 _ _ _ _ zs zs Hs8.out.rd Hr8.out).mono ?_
            rintro e w9 ⟨rfl, k9⟩
            rw [decide_eq_true rfl]
            have HK9 := Lib.hid (HK8.out.trans k9 (fun _ _ f => f))
            clear k9
            go_wp2_with fail
            go_ret
            exact ⟨rfl, HK9.out.below (Nat.le_refl _) (fun _ _ => id)⟩
          · rw [decide_eq_false hf]
            have Hf := Lib.hid hf
            clear hf
            go_wp2_with fail
            refine (put_is _ _ k zs Hr5.out).mono ?_
            rintro e w6 ⟨k6, ⟨h, _⟩ | ⟨_, rfl⟩ | ⟨⟨_, h⟩, _⟩⟩
            · omega
            · have HK6 := Lib.hid (HK5.out.trans k6 (fun _ _ f => f))
              clear k6
              go_wp2_with fail
              go_ret
              exact ⟨rfl, HK6.out.below (Nat.le_refl _) (fun _ _ => id)⟩
            · exact (Hf.out h).elim

section
open Go.ChangeShapes Go.WideShapes Go.ChangeAt Go.ChangeMaps Go.RowKit Go.Proofs.YtgcdimfbkpbhnaaDoor.Own Go.Proofs.YtgcdimfbkpbhnaaDoor.Open Go.Proofs.YtgcdimfbkpbhnaaDoor.Door

theorem own : ownKnob Tryd.prog.godebug = none := by kernel_rfl
theorem laidOut : laidOutB Tryd.prog = true := by kernel_rfl

theorem door_met (os : Os) (args : Array Value) : laidMetH Tryd.prog Rows.pickOctetsRow.laid ((World.doorLaid Tryd.prog 24 os).forCall (fun _ _ => 0) ⟨#[], args, []⟩).memory :=
  laidMetH_of_parts3 (fuel := 8) (laidMet_of_run' 8 (by kernel_rfl) (by kernel_rfl)) (by kernel_rfl) (by kernel_rfl)

set_option maxRecDepth 100000 in
theorem lifted (os : Os) (started : os.Started) (H : Type) (enc : TypeId × Value → H) :
    ReturnsInHanded {} Tryd.checked os 4 .any (fun w args => (Rows.pickOctetsSpec.pre enc Tryd.prog Tryd.f4 [] false w args ∧ laidMetH Tryd.prog Rows.pickOctetsRow.laid w) ∧ sizedMet enc Tryd.prog Tryd.f4 (OpenSpec.ofChange Rows.pickOctetsSpec) false w args) (Rows.pickOctetsSpec.post enc Tryd.prog Tryd.f4 false true false false) := by
  refine returnsInHanded_of_change_and (C := Tryd.checked) (X := fun w _ => laidMetH Tryd.prog Rows.pickOctetsRow.laid w) (fun _ _ _ hh h => h.of_heap hh) own started (by kernel_rfl) Tryd.func4
    (ChangeSpec.witness_shaped (enc := enc) (C := Tryd.checked) (os := os) (X := fun w _ => laidMetH Tryd.prog Rows.pickOctetsRow.laid w) false (World.doorLaid Tryd.prog 24 os) #[.slice none 0 0, .slice none 0 0] 8 rfl (World.shaped_of_RefB (by kernel_rfl) (by kernel_rfl)) (by kernel_rfl) (by kernel_rfl) (by kernel_rfl) (door_met os _)) ?_
  intro W base args ds gs before hval0 hW _ _ hL _
  have hval : ∀ (j : Nat) t v, Tryd.f4.params[j]? = some t → args[j]? = some v → Value.okWide Tryd.prog W .any base t v := hval0
  have hW' := hW
  obtain ⟨p, q, hA0, hV, rfl, hfz, hnd⟩ := hW
  have hA : DataW.TrodAll enc Tryd.prog W 0 (fun _ => true) true Tryd.f4.params.toList args.toList ds p := hA0
  rw [Tryd.params4] at hA hval
  have hA1 := hA
  obtain ⟨v0, vs0, d0, ds0, p0, q0, hargs, rfl, rfl, h0, r0⟩ := trodAll_cons hA
  obtain ⟨v1, vs1, d1, ds1, p1, q1, rfl, rfl, rfl, h1, r1⟩ := trodAll_cons r0
  obtain ⟨rfl, rfl, rfl⟩ := trodAll_nil r1
  obtain rfl : args = #[v0, v1] := by cases args; simp_all
  obtain ⟨rfl, rfl⟩ := trodVars_none hV
  obtain ⟨n0, z0, rd0, wf0⟩ := open_i64s 1 Tryd.underlying28 (by kernel_rfl) (by decide) (by kernel_rfl) (hval 0 28 v0 rfl rfl) h0
  obtain ⟨n1, z1, rd1, wf1⟩ := open_kinds Tryd.underlying23 Tryd.underlying5 (by kernel_rfl) (hval 1 23 v1 rfl rfl) h1
  clear hA0 hval0
  simp only [List.append_nil] at hW' hA1
  refine (walk W (tabs_of hL) v0 n0 z0 rd0 wf0 v1 n1 z1 rd1 wf1).mono fun e W' ⟨he, hb⟩ => ?_
  subst he
  exact ⟨_, rfl, ⟨_, _, _, [], _, [], hW', trodAll_mk1 (shut_bool Tryd.underlying4 _), below_args laidOut hb (by kernel_rfl) hA1 (fun x hx => by simpa using hW'.lt x hx), rfl, hb.frame _, fun h => by cases h⟩⟩

theorem said : Rows.PickOctetsSaid :=
  OpenClaim.holds_of_wide 4 Tryd.f4 rfl rfl rfl rfl rfl rfl rfl ⟨rfl, rfl, rfl, rfl, rfl⟩ rfl rfl rfl rfl rfl (by kernel_rfl) Tryd.func4 (by kernel_rfl)
    (of_decide_eq_true (by kernel_rfl)) (by unfold Func.isWrapper; first | (rw [if_pos (by decide +kernel)]; kernel_rfl) | (rw [if_neg (by decide +kernel)]; exact ⟨rfl, rfl⟩))
    (fun os started H enc _ => lifted os started H enc)

theorem proved : Rows.PickOctetsCardSaid :=
  Claim7.holds_tied_plain_at .later [] [.data, .data, .data] true Rows.pickOctetsCard.stood.harness false
    said (fun _ h => by cases h) (by kernel_rfl) (fun _ h => by cases h) pickOctets_row_tie rfl ⟨rfl, rfl⟩ (by kernel_rfl) rfl
    (fun f fn hf hfn => by
      obtain rfl : f = 4 := Option.some.inj ((show Tryd.prog.funcNamed "warrener/warrenerlaw30.PickOctets" = some 4 by kernel_rfl).symm.trans hf) |>.symm
      obtain rfl : fn = Tryd.f4 := (Option.some.inj (Tryd.func4.symm.trans hfn)).symm
      exact ⟨by kernel_rfl, fun j t ht => by
        have hm : t ∈ Tryd.f4.params := Array.mem_of_getElem? ht
        have hall : (Tryd.f4.params.all fun u => !Tryd.prog.wantsStandIn u) = true := by kernel_rfl
        have := Array.all_eq_true_iff_forall_mem.1 hall t hm
        exact (show Tryd.prog.wantsStandIn t = false by simpa using this)⟩)
    (by kernel_rfl)
end
end Go.Proofs.YtgcdimfbkpbhnaaDoor.pickOctets
