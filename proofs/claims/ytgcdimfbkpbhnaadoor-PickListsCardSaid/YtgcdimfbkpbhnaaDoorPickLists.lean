/-
  PickLists answers true, whatever the schedule and the numbers are. Condition: the three tables that the row lists lie as their initialisers lay them.
-/
import Derived.Test.YtgcdimfbkpbhnaaDoorSwLaw
import Derived.BigQuiet
import Derived.Deep.DeepCutAuto
import Derived.Deep.CutBlock
import Derived.Test.YtgcdimfbkpbhnaaDoorDoor
import Derived.Test.YtgcdimfbkpbhnaaDoorOpen
import Derived.Test.YtgcdimfbkpbhnaaDoorCards
import Derived.Test.YtgcdimfbkpbhnaaDoorTie
set_option linter.unusedVariables false
namespace Go.Proofs.YtgcdimfbkpbhnaaDoor.pickLists
open Go.RowKit Go.Sort Go.Proofs.YtgcdimfbkpbhnaaDoor.Own Go.Proofs.YtgcdimfbkpbhnaaDoor.Pick

/-- The k-th is left out. -/
def Drop (zs : List Int) (i m : Int) (k : Nat) : Prop := 1 ≤ m ∧ 0 ≤ i ∧ i < (zs.length : Int) ∧ i ≤ (k : Int) ∧ (k : Int) - i < m
instance (zs : List Int) (i m : Int) (k : Nat) : Decidable (Drop zs i m k) := inferInstanceAs (Decidable (_ ∧ _))
def outK (zs : List Int) (i m : Int) : Nat → List Int
  | 0 => []
  | k + 1 => if Drop zs i m k then outK zs i m k else outK zs i m k ++ [zs.getD k 0]
theorem outK_len (zs : List Int) (i m : Int) : ∀ k, (outK zs i m k).length ≤ k
  | 0 => by simp [outK]
  | k + 1 => by
    have := outK_len zs i m k
    unfold outK
    split
    · omega
    · simp; omega
theorem outK_eq (zs : List Int) (i m : Int) : ∀ k, k ≤ zs.length → outK zs i m k = if 1 ≤ m ∧ 0 ≤ i ∧ i < (zs.length : Int) then (zs.take k).take i.toNat ++ (zs.take k).drop (i.toNat + min m.toNat (zs.length - i.toNat)) else zs.take k
  | 0, _ => by simp [outK]
  | k + 1, h => by
    have ih := outK_eq zs i m k (by omega)
    have e : zs.take (k + 1) = zs.take k ++ [zs[k]] := by simp
    have eg : zs.getD k 0 = zs[k] := by simp [List.getD, show k < zs.length by omega]
    have hl : (zs.take k).length = k := by simp; omega
    unfold outK
    rw [ih, e, eg]
    by_cases hp : 1 ≤ m ∧ 0 ≤ i ∧ i < (zs.length : Int)
    · obtain ⟨p1, p2, p3⟩ := hp
      simp only [p1, p2, p3, and_self, if_true]
      obtain ⟨j, rfl⟩ : ∃ j : Nat, i = j := ⟨i.toNat, by omega⟩
      obtain ⟨q, hq⟩ : ∃ q, (j : Int).toNat + min m.toNat (zs.length - (j : Int).toNat) = q := ⟨_, rfl⟩
      rw [hq]
      simp only [Int.toNat_natCast] at hq ⊢
      by_cases hd : Drop zs j m k
      · obtain ⟨_, _, _, d4, d5⟩ := hd
        rw [if_pos ⟨p1, p2, p3, d4, d5⟩, List.take_append_of_le_length (by omega), List.drop_of_length_le (by omega), List.drop_of_length_le (by simp; omega)]
      · rw [if_neg hd]
        by_cases hkj : k < j
        · have a1 : (zs.take k).take j = zs.take k := List.take_of_length_le (by omega)
          have a2 : (zs.take k).drop q = [] := List.drop_of_length_le (by omega)
          have a3 : (zs.take k ++ [zs[k]]).take j = zs.take k ++ [zs[k]] := List.take_of_length_le (by rw [List.length_append, hl]; simp; omega)
          have a4 : (zs.take k ++ [zs[k]]).drop q = [] := List.drop_of_length_le (by rw [List.length_append, hl]; simp; omega)
          rw [a1, a2, a3, a4, List.append_nil, List.append_nil]
        · have hqk : q ≤ k := by
            unfold Drop at hd
            omega
          rw [List.take_append_of_le_length (by omega), List.drop_append_of_le_length (by omega), List.append_assoc]
    · rw [if_neg hp, if_neg hp, if_neg (fun hd => hp ⟨hd.1, hd.2.1, hd.2.2.1⟩)]
theorem outK_all (zs : List Int) (i m : Int) : outK zs i m zs.length = withoutL zs i m := by
  rw [outK_eq zs i m _ (Nat.le_refl _), List.take_length, withoutL]

set_option maxHeartbeats 8000000 in
set_option maxRecDepth 100000 in
theorem walk (w : World) (hT : Door.Tabs w) (lv : Value) (ln : Nat) (zs0 : List Int) (hr0 : Rd w 1 lv ln (vals zs0)) (wf0 : ∀ z ∈ zs0, (Lit.int .i64 z).wf = true) (i : Int) (wf1 : (Lit.int .i64 i).wf = true) (m : Int) (wf2 : (Lit.int .i64 m).wf = true) :
    Calls Tryd.prog 6 #[lv, .int .i64 i, .int .i64 m] w fun e w' => e = .returned (.bool true) ∧ Below w.heap.size w w' := by
  obtain ⟨i0, hi, hz0, hz1, hz2⟩ := info_parts info_int
  have hib := Open.wf_bd wf1
  have hmb := Open.wf_bd wf2
  obtain ⟨hib0, hib1⟩ := hib
  obtain ⟨hmb0, hmb1⟩ := hmb
  clear wf0 wf1 wf2
  go_enter Tryd.func6, Tryd.ntmps6
  go_wp2_with fail
  refine (alive_is w).mono ?_
  rintro e w1 ⟨rfl, k1⟩
  go_wp2_with fail
  refine (few_is w1 _ ln zs0 (hr0.kept k1 (fun _ _ => id))).mono ?_
  rintro e w1 ⟨⟨v, n, rfl, hn, hr⟩, rfl⟩
  have hl := hr.1
  rw [vals_len, Nat.mul_one] at hl
  obtain ⟨a, c, rfl⟩ : ∃ a c, v = .slice a n c := by obtain ⟨_, a, c, h, _⟩ := hr; exact ⟨a, c, h⟩
  have hcm : n ≤ c ∧ c ≤ maxLen := by obtain ⟨_, _, _, e, h1, h2, _⟩ := hr; cases e; exact ⟨h1, h2⟩
  obtain ⟨hnc, hcm⟩ := hcm
  unfold maxLen at hcm
  generalize zs0.take 80 = zs at *
  have Hr := Lib.hid hr
  have Hl := Lib.hid hl
  have hz1w := k1.size
  clear hr hr0 hl
  go_wp2_with (at_builtin; refine wpList_append_rd rfl _ _ 28 rfl w.heap.size 3 i0 (.int .i64 0) 1 8 Tryd.underlying28 hi hz0 hz1 hz2 rfl (by decide) _ 0 [] rfl (Seg.nil _ _ _ _) _ n (vals zs) rfl Hr.out (one_ints _) (by unfold maxLen; omega) (by omega) hz1w ?_)
  intro vw w2 hsw hgw hbw
  have K2 : Kept No w w2 := k1.grown hgw (fun k hk e => by simp [Value.ownBlock] at e)
  have k12 : Kept No w1 w2 := (Kept.refl No w1).grown hgw (fun k hk e => by simp [Value.ownBlock] at e)
  have Hr2 := Lib.hid (Hr.out.kept k12 (fun _ _ => id))
  have Hsw := Lib.hid hsw
  obtain ⟨aw, cw, rfl⟩ : ∃ a c, vw = .slice a n c := by obtain ⟨_, a, c, h, _⟩ := Hsw.out.rd; exact ⟨a, c, h⟩
  clear hsw hgw hbw k12 k1 Hr
  go_wp2_with fail
  go_loopw [8, 10] (fun o ik wr => ∃ k : Nat, k ≤ n ∧ ik = .int .i64 k ∧ Seg wr w.heap.size 3 1 o (outK zs i m k).length (vals (outK zs i m k)) ∧ Kept No w wr ∧ (∀ g, o.ownBlock = some g → w2.heap.size ≤ g) ∧ Kept No w2 wr) (fun _ ik _ => n - (intOf ik).toNat)
  case atStart => exact ⟨0, by omega, rfl, Seg.nil _ _ _ _, K2, (fun g hg => by simp [Value.ownBlock] at hg), Kept.refl _ _⟩
  case round =>
    obtain ⟨k, hk, rfl, hseg, hK, hob, hK2⟩ := hrel
    by_cases hlt : k < n
    · go_upto_region 9 with fail
      go_cut [49] from 20 to 49 (fun v wx => v = .bool (decide (Drop zs i m k)) ∧ wx = wr)
      case first =>
        have hl := Hl.out
        by_cases h1 : 1 ≤ m
        · by_cases h2 : 0 ≤ i
          · by_cases h3 : i < (n : Int)
            · by_cases h4 : i ≤ (k : Int)
              · by_cases h5 : (k : Int) - i < m
                · have hd : decide (Drop zs i m k) = true := decide_eq_true ⟨h1, h2, by omega, h4, h5⟩
                  have Hd := Lib.hid hd
                  clear hd hl
                  go_wp2_with fail
                  go_meet
                  case rel => exact ⟨by rw [Hd.out], rfl⟩
                · have hd : decide (Drop zs i m k) = false := decide_eq_false (fun h => h5 h.2.2.2.2)
                  have Hd := Lib.hid hd
                  clear hd hl
                  go_wp2_with fail
                  go_meet
                  case rel => exact ⟨by rw [Hd.out], rfl⟩
              · have hd : decide (Drop zs i m k) = false := decide_eq_false (fun h => h4 h.2.2.2.1)
                have Hd := Lib.hid hd
                clear hd hl
                go_wp2_with fail
                go_meet
                case rel => exact ⟨by rw [Hd.out], rfl⟩
            · have hd : decide (Drop zs i m k) = false := decide_eq_false (fun h => h3 (by have := h.2.2.1; omega))
              have Hd := Lib.hid hd
              clear hd hl
              go_wp2_with fail
              go_meet
              case rel => exact ⟨by rw [Hd.out], rfl⟩
          · have hd : decide (Drop zs i m k) = false := decide_eq_false (fun h => h2 h.2.1)
            have Hd := Lib.hid hd
            clear hd hl
            go_wp2_with fail
            go_meet
            case rel => exact ⟨by rw [Hd.out], rfl⟩
        · have hd : decide (Drop zs i m k) = false := decide_eq_false (fun h => h1 h.1)
          have Hd := Lib.hid hd
          clear hd hl
          go_wp2_with fail
          go_meet
          case rel => exact ⟨by rw [Hd.out], rfl⟩
      case rest =>
        obtain ⟨rfl, rfl⟩ := hcut
        have hst : outK zs i m (k + 1) = if Drop zs i m k then outK zs i m k else outK zs i m k ++ [zs.getD k 0] := rfl
        by_cases hd : Drop zs i m k
        · rw [if_pos hd] at hst
          have hb : decide (Drop zs i m k) = true := decide_eq_true hd
          rw [hb]
          have Hst := Lib.hid hst
          clear hst hb hd
          go_wp2_with fail
          go_roundw
          case rel => exact ⟨k + 1, by omega, by go_num, by rw [Hst.out]; exact hseg, hK, hob, hK2⟩
          case measure => simp [intOf]; omega
        · rw [if_neg hd] at hst
          have hb : decide (Drop zs i m k) = false := decide_eq_false hd
          rw [hb]
          obtain ⟨_, a', c', e0, _, _, _, hR⟩ := Hr2.out
          cases e0
          obtain ⟨g, o, rfl, hg, hcell⟩ := hR (by omega)
          have hl := Hl.out
          have c1 : wc.cell? ⟨g, o + k, none⟩ = some (.int .i64 (zs[k]'(by omega))) := (hK2.cell (p := ⟨g, o + k, none⟩) hg id).trans (hcell k _ (by simp [vals, show k < zs.length by omega]))
          have hgd : zs.getD k 0 = zs[k]'(by omega) := by simp [List.getD, show k < zs.length by omega]
          rw [hgd] at hst
          have Hst := Lib.hid hst
          have hzk := hK.size
          have hzk2 := hK2.size
          have hol := outK_len zs i m k
          generalize zs[k]'(by omega) = x at *
          clear hst hb hd hR hcell hgd hl
          go_wp2_with (at_builtin; refine wpList_append_seg rfl _ _ 28 rfl w.heap.size 3 i0 (.int .i64 0) 1 8 Tryd.underlying28 hi hz0 hz1 hz2 rfl (by decide) _ _ _ rfl (hseg.kept ((Kept.refl No _).alloc _) (fun _ _ f => f.elim)) ⟨_, 0, none⟩ 1 1 (vals [x]) rfl rfl (cell_one _ _ _) (one_ints _) (by unfold maxLen; omega) (by omega) (by simp; omega) ?_)
          intro v3 w3 hs3 hg3 hb3
          have hK3 : Kept No w w3 := (hK.alloc (.cells #[.int .i64 x] 3)).grown hg3 (fun y hlt hy => by have := hob y hy; have := K2.size; omega)
          have hK4 : Kept No w2 w3 := (hK2.alloc (.cells #[.int .i64 x] 3)).grown hg3 (fun y hlt hy => by have := hob y hy; omega)
          go_wp2_with fail
          go_roundw
          case rel => exact ⟨k + 1, by omega, by go_num, by rw [Hst.out, List.length_append]; simpa [vals] using hs3, hK3, (fun y hy => by rcases hb3 y hy with h | h; exact hob y h; omega), hK4⟩
          case measure => simp [intOf]; omega
    · obtain rfl : k = n := by omega
      have hwl := outK_all zs i m
      rw [Hl.out] at hwl
      rw [hwl] at hseg
      have Hseg := Lib.hid hseg
      have HK := Lib.hid hK
      have hzK := hK.size
      have hzK2 := hK2.size
      have Hsw2 := Lib.hid (Hsw.out.kept hK2 (fun _ _ => id))
      have Hr3 := Lib.hid (Hr2.out.kept hK2 (fun _ _ => id))
      clear hwl hseg hK hK2 Hsw Hr2 hob K2
      go_wp2_with (at_builtin; refine wpList_append_rd rfl _ _ 28 rfl w.heap.size 3 i0 (.int .i64 0) 1 8 Tryd.underlying28 hi hz0 hz1 hz2 rfl (by decide) _ 0 [] rfl (Seg.nil _ _ _ _) _ k (vals zs) rfl Hr3.out (one_ints _) (by unfold maxLen; omega) (by omega) hzK ?_)
      intro vs w4 hs4 hg4 hb4
      have k4 : Kept No wr w4 := (Kept.refl No wr).grown hg4 (fun k hk e => by simp [Value.ownBlock] at e)
      have HK4 := Lib.hid (HK.out.trans k4 (fun _ _ f => f))
      have Hseg4 := Lib.hid (Hseg.out.kept k4 (fun _ _ => id))
      have Hsw4 := Lib.hid (Hsw2.out.kept k4 (fun _ _ => id))
      have Hr4 := Lib.hid (Hr3.out.kept k4 (fun _ _ => id))
      have Hs4 := Lib.hid hs4
      have hbs : ∀ g, vs.ownBlock = some g → wr.heap.size ≤ g := fun g hg => by
        rcases hb4 g hg with h | h
        · simp [Value.ownBlock] at h
        · exact h
      have hz4 := k4.size
      obtain ⟨av, cv, rfl⟩ : ∃ a c, vs = .slice a k c := by obtain ⟨_, a, c, h, _⟩ := Hs4.out.rd; exact ⟨a, c, h⟩
      have hla : 0 < k → ∃ g o, a = some ⟨g, o, none⟩ ∧ g < wr.heap.size := by
        obtain ⟨_, _, _, e, _, _, _, hR⟩ := Hr3.out
        cases e
        intro h
        obtain ⟨g, o, e, hg, _⟩ := hR h
        exact ⟨g, o, e, hg⟩
      have hu8 : ∀ y, u8.ownBlock = some y → y < wr.heap.size := fun y hy => (Hseg.out.lt y hy).2
      have haw : ∀ y, (Value.slice aw k cw).ownBlock = some y → y < wr.heap.size := fun y hy => (Hsw2.out.lt y hy).2
      clear hs4 hg4 hb4 k4 HK Hseg Hsw2 Hr3
      have key : (0 ≤ i ∧ i < (k : Int) - 1) ∨ ¬ (0 ≤ i ∧ i < (k : Int) - 1) := Classical.em _
      rcases key with hin | hin
      case' inl =>
        obtain ⟨g2, g3⟩ := hin
        obtain ⟨j, rfl⟩ : ∃ j : Nat, i = j := ⟨i.toNat, by omega⟩
        have hl := Hl.out
        obtain ⟨gl, ol, rfl, hgl⟩ := hla (by omega)
        obtain ⟨g, o, rfl⟩ : ∃ g o, av = some ⟨g, o, none⟩ := by obtain ⟨_, a, c, h, _, _, _, hh⟩ := Hs4.out.rd; cases h; obtain ⟨g, o, e, _⟩ := hh (by omega); exact ⟨g, o, e⟩
        have hge := hbs g rfl
        obtain ⟨hH, hB, hlt4, hkv, hcv⟩ := seg_holds Hs4.out (by omega)
        unfold maxLen at hcv
        obtain ⟨_, _, _, e0, _, _, _, hRl⟩ := Hr4.out
        cases e0
        obtain ⟨_, _, e0, _, hcl⟩ := hRl (by omega)
        cases e0
        have f0 := (hH j (by simp; omega)).2
        have f1 := (hH (j + 1) (by simp; omega)).2
        have d0 := (hH j (by simp; omega)).1
        have d1 := (hH (j + 1) (by simp; omega)).1
        have c1 : w4.cell? ⟨gl, ol + (j + 1), none⟩ = some (.int .i64 (zs[j + 1]'(by omega))) := hcl (j + 1) _ (by simp [vals, show j + 1 < zs.length by omega])
        have c0 : ∀ u, (w4.setCell ⟨g, o + j, none⟩ u).cell? ⟨gl, ol + j, none⟩ = some (.int .i64 (zs[j]'(by omega))) := fun u => by
          have h0 := hcl j (.int .i64 (zs[j]'(by omega))) (by simp [vals, show j < zs.length by omega])
          rw [← h0]
          exact World.cell?_of_block (Below.heap_setCell _ _ _ _ (by simp only; omega))
        have hsw : swapL zs j = (zs.set j (zs[j + 1]'(by omega))).set (j + 1) (zs[j]'(by omega)) := by
          rw [swapL, if_pos ⟨g2, by omega⟩]
          simp [List.getD, show j < zs.length by omega, show j + 1 < zs.length by omega]
        have Hsw := Lib.hid hsw
        have e1 : IntKind.i64.wrap ((j : Int) + 1) = (j : Int) + 1 := by rw [IntKind.wrap_i64]; omega
        have e2 : ((j : Int) + 1).toNat = j + 1 := by omega
        generalize zs[j]'(by omega) = y at *
        generalize zs[j + 1]'(by omega) = x at *
        generalize zs.toArray[j]! = y' at *
        generalize zs.toArray[j + 1]! = x' at *
        clear hsw hH hRl hcl hl hla hbs
        go_upto_region 15 with fail
        have hset := (Hs4.out.set j (.int .i64 x)).set (j + 1) (.int .i64 y)
        rw [show ((vals zs).set j (.int .i64 x)).set (j + 1) (.int .i64 y) = vals (swapL zs j) by rw [Hsw.out]; simp [vals]] at hset
        have Hs5 := Lib.hid hset
        have k5 : Kept (Only g) w4 ((w4.setCell ⟨g, o + j, none⟩ (.int .i64 x)).setCell ⟨g, o + (j + 1), none⟩ (.int .i64 y)) := ((Kept.refl _ w4).setCell (p := ⟨g, o + j, none⟩) (fun _ => by exact rfl) _).setCell (p := ⟨g, o + (j + 1), none⟩) (fun _ => by exact rfl) _
        have Hseg5 := Lib.hid (Hseg4.out.kept k5 (fun y hy e => by have := hu8 y hy; simp only [Only] at e; omega))
        have Hsw5 := Lib.hid (Hsw4.out.kept k5 (fun y hy e => by have := haw y hy; simp only [Only] at e; omega))
        have Hr5 := Lib.hid (Hr4.out.kept k5 (fun y hy e => by simp only [Only] at e; simp [Value.ownBlock] at hy; omega))
        have HK5 := Lib.hid (HK4.out.trans k5 (fun q hq e => by simp only [Only] at e; omega))
        clear Hseg4 Hsw4 Hr4 HK4 k5 hset f0 f1 d0 d1 c1 c0 Hs4
        generalize (w4.setCell ⟨g, o + j, none⟩ (.int .i64 x)).setCell ⟨g, o + (j + 1), none⟩ (.int .i64 y) = w5 at *
      case' inr =>
        have hno : swapL zs i = zs := by rw [swapL, if_neg (by rw [Hl.out]; exact hin)]
        have Hs5 := Lib.hid Hs4.out
        rw [show vals zs = vals (swapL zs i) by rw [hno]] at Hs5
        have Hseg5 := Lib.hid Hseg4.out
        have Hsw5 := Lib.hid Hsw4.out
        have Hr5 := Lib.hid Hr4.out
        have HK5 := Lib.hid HK4.out
        clear Hseg4 Hsw4 Hr4 HK4 Hs4 hno
        go_upto_region 15 with fail
      all_goals
        go_wp2_with fail
        refine (without_is _ _ k zs _ m ⟨by omega, by omega⟩ ⟨by omega, by omega⟩ Hr5.out (by omega)).mono ?_
        rintro e w6 ⟨⟨u, rfl, hr6⟩, k6⟩
        have Hs6 := Lib.hid (Hs5.out.kept k6 (fun _ _ => id))
        have Hseg6 := Lib.hid (Hseg5.out.kept k6 (fun _ _ => id))
        have Hsw6 := Lib.hid (Hsw5.out.kept k6 (fun _ _ => id))
        have Hr6 := Lib.hid (Hr5.out.kept k6 (fun _ _ => id))
        have HK6 := Lib.hid (HK5.out.trans k6 (fun _ _ f => f))
        have Hu6 := Lib.hid hr6
        clear hr6 k6 Hs5 Hseg5 Hsw5 Hr5 HK5
        go_wp2_with fail
        refine (swap_is w6 _ k zs _ ⟨by omega, by omega⟩ Hr6.out (by omega)).mono ?_
        rintro e w7 ⟨⟨u', rfl, hr7⟩, k7⟩
        have Hs7 := Lib.hid (Hs6.out.kept k7 (fun _ _ => id))
        have Hseg7 := Lib.hid (Hseg6.out.kept k7 (fun _ _ => id))
        have Hsw7 := Lib.hid (Hsw6.out.kept k7 (fun _ _ => id))
        have Hr7 := Lib.hid (Hr6.out.kept k7 (fun _ _ => id))
        have Hu7 := Lib.hid (Hu6.out.kept k7 (fun _ _ => id))
        have HK7 := Lib.hid (HK6.out.trans k7 (fun _ _ f => f))
        have Hv7 := Lib.hid hr7
        clear hr7 k7 Hs6 Hseg6 Hsw6 Hr6 HK6 Hu6
        go_wp2_with fail
        refine (ints_is w7 _ _ _ _ _ _ Hu7.out Hseg7.out.rd).mono ?_
        rintro e w8 ⟨rfl, k8⟩
        rw [decide_eq_true rfl]
        have Hs8 := Lib.hid (Hs7.out.kept k8 (fun _ _ => id))
        have Hsw8 := Lib.hid (Hsw7.out.kept k8 (fun _ _ => id))
        have Hr8 := Lib.hid (Hr7.out.kept k8 (fun _ _ => id))
        have Hv8 := Lib.hid (Hv7.out.kept k8 (fun _ _ => id))
        have HK8 := Lib.hid (HK7.out.trans k8 (fun _ _ f => f))
        clear k8 Hs7 Hseg7 Hsw7 Hr7 HK7 Hu7 Hv7
        go_wp2_with fail
        refine (ints_is w8 _ _ _ _ _ _ Hv8.out Hs8.out.rd).mono ?_
        rintro e w9 ⟨rfl, k9⟩
        rw [decide_eq_true rfl]
        have Hsw9 := Lib.hid (Hsw8.out.kept k9 (fun _ _ => id))
        have Hr9 := Lib.hid (Hr8.out.kept k9 (fun _ _ => id))
        have HK9 := Lib.hid (HK8.out.trans k9 (fun _ _ f => f))
        clear k9 Hs8 Hsw8 Hr8 HK8 Hv8
        go_wp2_with fail
        refine (ints_is w9 _ _ _ _ _ _ Hr9.out Hsw9.out.rd).mono ?_
        rintro e w10 ⟨rfl, k10⟩
        rw [decide_eq_true rfl]
        have HK10 := Lib.hid (HK9.out.trans k10 (fun _ _ f => f))
        clear k10
        go_wp2_with fail
        go_ret
        exact ⟨rfl, HK10.out.below (Nat.le_refl _) (fun _ _ => id)⟩

section
open Go.ChangeShapes Go.WideShapes Go.ChangeAt Go.ChangeMaps Go.RowKit Go.Proofs.YtgcdimfbkpbhnaaDoor.Own Go.Proofs.YtgcdimfbkpbhnaaDoor.Open Go.Proofs.YtgcdimfbkpbhnaaDoor.Door

theorem own : ownKnob Tryd.prog.godebug = none := by kernel_rfl
theorem laidOut : laidOutB Tryd.prog = true := by kernel_rfl

theorem door_met (os : Os) (args : Array Value) : laidMetH Tryd.prog Rows.pickListsRow.laid ((World.doorLaid Tryd.prog 24 os).forCall (fun _ _ => 0) ⟨#[], args, []⟩).memory :=
  laidMetH_of_parts3 (fuel := 8) (laidMet_of_run' 8 (by kernel_rfl) (by kernel_rfl)) (by kernel_rfl) (by kernel_rfl)

set_option maxRecDepth 100000 in
theorem lifted (os : Os) (started : os.Started) (H : Type) (enc : TypeId × Value → H) :
    ReturnsInHanded {} Tryd.checked os 6 .any (fun w args => (Rows.pickListsSpec.pre enc Tryd.prog Tryd.f6 [] false w args ∧ laidMetH Tryd.prog Rows.pickListsRow.laid w) ∧ sizedMet enc Tryd.prog Tryd.f6 (OpenSpec.ofChange Rows.pickListsSpec) false w args) (Rows.pickListsSpec.post enc Tryd.prog Tryd.f6 false true false false) := by
  refine returnsInHanded_of_change_and (C := Tryd.checked) (X := fun w _ => laidMetH Tryd.prog Rows.pickListsRow.laid w) (fun _ _ _ hh h => h.of_heap hh) own started (by kernel_rfl) Tryd.func6
    (ChangeSpec.witness_shaped (enc := enc) (C := Tryd.checked) (os := os) (X := fun w _ => laidMetH Tryd.prog Rows.pickListsRow.laid w) false (World.doorLaid Tryd.prog 24 os) #[.slice none 0 0, .int .i64 0, .int .i64 0] 8 rfl (World.shaped_of_RefB (by kernel_rfl) (by kernel_rfl)) (by kernel_rfl) (by kernel_rfl) (by kernel_rfl) (door_met os _)) ?_
  intro W base args ds gs before hval0 hW _ _ hL _
  have hval : ∀ (j : Nat) t v, Tryd.f6.params[j]? = some t → args[j]? = some v → Value.okWide Tryd.prog W .any base t v := hval0
  have hW' := hW
  obtain ⟨p, q, hA0, hV, rfl, hfz, hnd⟩ := hW
  have hA : DataW.TrodAll enc Tryd.prog W 0 (fun _ => true) true Tryd.f6.params.toList args.toList ds p := hA0
  rw [Tryd.params6] at hA hval
  have hA1 := hA
  obtain ⟨v0, vs0, d0, ds0, p0, q0, hargs, rfl, rfl, h0, r0⟩ := trodAll_cons hA
  obtain ⟨v1, vs1, d1, ds1, p1, q1, rfl, rfl, rfl, h1, r1⟩ := trodAll_cons r0
  obtain ⟨v2, vs2, d2, ds2, p2, q2, rfl, rfl, rfl, h2, r2⟩ := trodAll_cons r1
  obtain ⟨rfl, rfl, rfl⟩ := trodAll_nil r2
  obtain rfl : args = #[v0, v1, v2] := by cases args; simp_all
  obtain ⟨rfl, rfl⟩ := trodVars_none hV
  obtain ⟨n0, z0, rd0, wf0⟩ := open_i64s 1 Tryd.underlying28 (by kernel_rfl) (by decide) (by kernel_rfl) (hval 0 28 v0 rfl rfl) h0
  obtain ⟨a1, rfl, rfl, rfl, w1⟩ := open_int Tryd.underlying3 (hval 1 3 v1 rfl rfl) h1
  obtain ⟨a2, rfl, rfl, rfl, w2⟩ := open_int Tryd.underlying3 (hval 2 3 v2 rfl rfl) h2
  clear hA0 hval0
  simp only [List.append_nil] at hW' hA1
  refine (walk W (tabs_of hL) v0 n0 z0 rd0 wf0 a1 w1 a2 w2).mono fun e W' ⟨he, hb⟩ => ?_
  subst he
  exact ⟨_, rfl, ⟨_, _, _, [], _, [], hW', trodAll_mk1 (shut_bool Tryd.underlying4 _), below_args laidOut hb (by kernel_rfl) hA1 (fun x hx => by simpa using hW'.lt x hx), rfl, hb.frame _, fun h => by cases h⟩⟩

theorem said : Rows.PickListsSaid :=
  OpenClaim.holds_of_wide 6 Tryd.f6 rfl rfl rfl rfl rfl rfl rfl ⟨rfl, rfl, rfl, rfl, rfl⟩ rfl rfl rfl rfl rfl (by kernel_rfl) Tryd.func6 (by kernel_rfl)
    (of_decide_eq_true (by kernel_rfl)) (by unfold Func.isWrapper; first | (rw [if_pos (by decide +kernel)]; kernel_rfl) | (rw [if_neg (by decide +kernel)]; exact ⟨rfl, rfl⟩))
    (fun os started H enc _ => lifted os started H enc)

theorem proved : Rows.PickListsCardSaid :=
  Claim7.holds_tied_plain_at .later [] [.data, .data, .data] true Rows.pickListsCard.stood.harness false
    said (fun _ h => by cases h) (by kernel_rfl) (fun _ h => by cases h) pickLists_row_tie rfl ⟨rfl, rfl⟩ (by kernel_rfl) rfl
    (fun f fn hf hfn => by
      obtain rfl : f = 6 := Option.some.inj ((show Tryd.prog.funcNamed "warrener/warrenerlaw30.PickLists" = some 6 by kernel_rfl).symm.trans hf) |>.symm
      obtain rfl : fn = Tryd.f6 := (Option.some.inj (Tryd.func6.symm.trans hfn)).symm
      exact ⟨by kernel_rfl, fun j t ht => by
        have hm : t ∈ Tryd.f6.params := Array.mem_of_getElem? ht
        have hall : (Tryd.f6.params.all fun u => !Tryd.prog.wantsStandIn u) = true := by kernel_rfl
        have := Array.all_eq_true_iff_forall_mem.1 hall t hm
        exact (show Tryd.prog.wantsStandIn t = false by simpa using this)⟩)
    (by kernel_rfl)
end
end Go.Proofs.YtgcdimfbkpbhnaaDoor.pickLists
