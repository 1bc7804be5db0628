/-
  A key added to others: the program's own way.
-/
import Derived.Test.YtnggbfdnlmkklaaDoorKeyIns
import Derived.Test.YtnggbfdnlmkklaaDoorKeyLess2
import Derived.Lib.SliceRun
set_option linter.unusedVariables false
namespace Go.Proofs.YtnggbfdnlmkklaaDoor.Line
open Go.RowKit Go.Sort Go.Proofs.YtnggbfdnlmkklaaDoor.Own Go.Proofs.YtnggbfdnlmkklaaDoor.Conv Go.Proofs.YtnggbfdnlmkklaaDoor.Calm

set_option maxHeartbeats 4000000 in
theorem clone_is (w : World) (v : Value) (n : Nat) (xs : List K3) (hx : Rd w 3 v n (keyV xs)) (hn : n ≤ 1000) :
    Calls Tryd.prog 31 #[v] w fun e w' => ∃ v', e = .returned v' ∧ Seg w' w.heap.size 23 3 v' n (keyV xs) ∧ Kept No w w' := by
  obtain ⟨i0, hi0, hz0, hz1, hz2⟩ := info_parts info_key
  have hx0 := hx
  obtain ⟨hl, ao, c, rfl, hc, hm, hnn, hR⟩ := hx
  cases ao with
  | none =>
    obtain ⟨rfl, rfl⟩ := hnn rfl
    refine (clone_nil w).mono ?_
    rintro e w' ⟨rfl, rfl⟩
    obtain rfl : xs = [] := List.eq_nil_of_length_eq_zero (by rw [keyV_len] at hl; omega)
    exact ⟨_, rfl, Seg.nil _ _ _ _, Kept.refl _ _⟩
  | some a =>
    have HX := Lib.hid hx0
    have hq : ∀ w, (binOp .eql 34 (.slice (some a) n c) (.slice none 0 0)).run Tryd.prog w = .ok (.bool false) w := fun w => by
      have := Lib.run_eql_slice_nil (P := Tryd.prog) w 34 23 (some a) n c 0 0 Tryd.underlying34
      simpa using this
    have hs0 : Seg (w.alloc (.cells #[] 23)) w.heap.size 23 3 (.slice (some ⟨w.heap.size, 0, none⟩) 0 0) 0 [] :=
      ⟨by simp, .inr ⟨w.heap.size, 0, 0, #[], rfl, Nat.le_refl _, Blk.plain (heap_alloc_new w _), by omega, by unfold maxLen; omega, by simp, fun j hj => by omega⟩⟩
    have hk0 : Kept No w (w.alloc (.cells #[] 23)) := (Kept.refl _ _).alloc _
    have hr1 := hx0.kept hk0 (fun _ _ f => f)
    clear hx0 hl hc hm hnn hR
    go_enter Tryd.func31, Tryd.ntmps31
    go_wp2_with (at_builtin; refine wpList_append_rd rfl _ _ 34 rfl w.heap.size 23 i0 (.agg #[.int .i64 0, .int .i64 0, .int .i64 0]) 3 24 Tryd.underlying34 hi0 hz0 hz1 hz2 rfl (by decide) _ 0 [] rfl hs0 _ n (keyV xs) rfl hr1 ?c2 ?c3 ?c4 ?c5 ?_)
    case c2 => exact one_ints _
    case c3 => unfold maxLen; omega
    case c4 => omega
    case c5 => simp
    intro v' w' hs hg _
    have hk : Kept No w w' := hk0.grown hg (fun k hk e => by simp only [Value.ownBlock] at e; injection e with e; omega)
    go_wp2_with fail
    go_ret
    exact ⟨_, rfl, by simpa using hs, hk⟩

theorem ins_step {k : K3} {xs : List K3} {m : Nat} {x : K3} (h : ins k xs = xs.take m ++ ins k (xs.drop m)) (hx : xs[m]? = some x) (hl : lt3 k x = false) : ins k xs = xs.take (m + 1) ++ ins k (xs.drop (m + 1)) := by
  have hm := (List.getElem?_eq_some_iff.1 hx).1
  have hd : xs.drop m = x :: xs.drop (m + 1) := by
    rw [List.drop_eq_getElem_cons hm]
    rw [(List.getElem?_eq_some_iff.1 hx).2]
  rw [h, hd, ins, if_neg (by simp [hl]), List.take_add_one, hx]
  simp
theorem ins_here {k : K3} {xs : List K3} {m : Nat} {x : K3} (h : ins k xs = xs.take m ++ ins k (xs.drop m)) (hx : xs[m]? = some x) (hl : lt3 k x = true) : ins k xs = xs.take m ++ k :: xs.drop m := by
  have hm := (List.getElem?_eq_some_iff.1 hx).1
  have hd : xs.drop m = x :: xs.drop (m + 1) := by
    rw [List.drop_eq_getElem_cons hm]
    rw [(List.getElem?_eq_some_iff.1 hx).2]
  rw [h, hd, ins, if_pos hl]

set_option maxRecDepth 100000 in
set_option maxHeartbeats 8000000 in
theorem add_is (w : World) (v : Value) (n : Nat) (xs : List K3) (hx : Rd w 3 v n (keyV xs)) (hn : n ≤ 999) (k1 k2 k3 : Int) :
    Calls Tryd.prog 15 #[v, .agg #[.int .i64 k1, .int .i64 k2, .int .i64 k3]] w fun e w' => ∃ v' m, e = .returned v' ∧ m ≤ n + 1 ∧ Seg w' w.heap.size 23 3 v' m (keyV (addC xs (k1, k2, k3))) ∧ Kept No w w' := by
  obtain ⟨i0, hi0, hz0, hz1, hz2⟩ := info_parts info_key
  have hlen : xs.length = n := by have := hx.len; rw [keyV_len] at this; omega
  have hk0 : Kept No w (w.alloc (.cells #[.int .i64 k1, .int .i64 k2, .int .i64 k3] 23)) := (Kept.refl _ _).alloc _
  have hb0 := Box.new w #[.int .i64 k1, .int .i64 k2, .int .i64 k3] 23
  have hx0 := hx.kept hk0 (fun _ _ f => f)
  have HK := Lib.hid hk0
  have HX := Lib.hid hx0
  have HL := Lib.hid hlen
  clear hk0 hx hx0 hlen
  go_enter Tryd.func15, Tryd.ntmps15
  go_upto_region 1 with fail
  have hk0 := HK.out
  have hx0 := HX.out
  clear HK HX
  generalize w.alloc (.cells #[.int .i64 k1, .int .i64 k2, .int .i64 k3] 23) = w0 at *
  go_wp2_with fail
  refine (clone_is w0 v n xs hx0 (by omega)).mono ?_
  rintro e w1 ⟨v1, rfl, hs1, k1'⟩
  have hb1 := hb0.kept k1' id
  have hx1 := hx0.kept k1' (fun _ _ f => f)
  have hk1 := hk0.trans k1' (fun _ _ f => f)
  have hs1 := hs1.mono (show w.heap.size + 1 ≤ w0.heap.size from hb0.lt)
  clear hb0 hx0 hk0 k1'
  obtain ⟨c0, c1, c2⟩ : w1.cell? ⟨w.heap.size, 0, none⟩ = some (.int .i64 k1) ∧ w1.cell? ⟨w.heap.size, 1, none⟩ = some (.int .i64 k2) ∧ w1.cell? ⟨w.heap.size, 2, none⟩ = some (.int .i64 k3) := ⟨hb1.cell 0, hb1.cell 1, hb1.cell 2⟩
  go_wp2_with fail
  refine (has_is w1 v n xs hx1 k1 k2 k3).mono ?_
  rintro e w2 ⟨rfl, k2'⟩
  have hb2 := hb1.kept k2' id
  have hk2 := hk1.trans k2' (fun _ _ f => f)
  have hs2 := hs1.kept k2' (fun _ _ f => f)
  clear hb1 hx1 hk1 k2' hs1 c0 c1 c2
  by_cases hmem : (k1, k2, k3) ∈ xs
  · rw [decide_eq_true hmem]
    have ha : addC xs (k1, k2, k3) = xs := if_pos hmem
    have HA := Lib.hid ha
    clear hmem ha
    go_wp2_with fail
    go_ret
    exact ⟨v1, n, rfl, by omega, by rw [HA.out]; exact hs2.mono (by omega), hk2⟩
  · rw [decide_eq_false hmem]
    have ha : addC xs (k1, k2, k3) = ins (k1, k2, k3) xs := if_neg hmem
    have HA := Lib.hid ha
    obtain ⟨_, av, cv, rfl, _, _, hnil, hR⟩ := hs2.rd
    clear hmem ha
    go_wp2_with fail
    go_loopw [16] (fun i wr => ∃ m : Nat, m ≤ n ∧ i = .int .i64 m ∧ Hid (ins (k1, k2, k3) xs = xs.take m ++ ins (k1, k2, k3) (xs.drop m)) ∧ Box wr w.heap.size #[.int .i64 k1, .int .i64 k2, .int .i64 k3] 23 ∧ Seg wr (w.heap.size + 1) 23 3 (.slice av n cv) n (keyV xs) ∧ Kept No w wr) (fun i _ => n - (intOf i).toNat)
    case atStart => exact ⟨0, by omega, rfl, Lib.hid (by simp), hb2, hs2, hk2⟩
    case round =>
      obtain ⟨m, hm, rfl, HI, hb, hs, hK⟩ := hrel
      clear hb2 hs2 hk2 hR hnil
      by_cases hlt : m < n
      · obtain ⟨x, hxm⟩ : ∃ x, xs[m]? = some x := ⟨_, List.getElem?_eq_getElem (by have := HL.out; omega)⟩
        obtain ⟨p1, p2, p3⟩ := keyV_at xs m x hxm
        obtain ⟨_, a', c', he, _, _, _, hR⟩ := hs.rd
        cases he
        obtain ⟨g, o, rfl, hg, hcell⟩ := hR (by omega)
        have e1 : wr.cell? ⟨g, o + m * 3, none⟩ = some (.int .i64 x.1) := hcell _ _ p1
        have e2 : wr.cell? ⟨g, o + m * 3 + 1, none⟩ = some (.int .i64 x.2.1) := hcell _ _ p2
        have e3 : wr.cell? ⟨g, o + m * 3 + 2, none⟩ = some (.int .i64 x.2.2) := hcell _ _ p3
        have j1 : (m : Int) < (n : Int) := by omega
        have HXM := Lib.hid hxm
        clear hcell p1 p2 p3 hxm hR
        go_upto_region 7 with fail
        have hy := Box.new wr #[.int .i64 x.1, .int .i64 x.2.1, .int .i64 x.2.2] 23
        have ka : Kept No wr (wr.alloc (.cells #[.int .i64 x.1, .int .i64 x.2.1, .int .i64 x.2.2] 23)) := (Kept.refl _ _).alloc _
        have hb8 := hb.kept ka id
        have hs8 := hs.kept ka (fun _ _ f => f)
        have hK8 := hK.trans ka (fun _ _ f => f)
        clear hb hs hK ka e1 e2 e3
        generalize wr.alloc _ = w8 at *
        generalize wr.heap.size = b8 at *
        obtain ⟨c0, c1, c2⟩ : w8.cell? ⟨w.heap.size, 0, none⟩ = some (.int .i64 k1) ∧ w8.cell? ⟨w.heap.size, 1, none⟩ = some (.int .i64 k2) ∧ w8.cell? ⟨w.heap.size, 2, none⟩ = some (.int .i64 k3) := ⟨hb8.cell 0, hb8.cell 1, hb8.cell 2⟩
        obtain ⟨d0, d1, d2⟩ : w8.cell? ⟨b8, 0, none⟩ = some (.int .i64 x.1) ∧ w8.cell? ⟨b8, 1, none⟩ = some (.int .i64 x.2.1) ∧ w8.cell? ⟨b8, 2, none⟩ = some (.int .i64 x.2.2) := ⟨hy.cell 0, hy.cell 1, hy.cell 2⟩
        have HLS := Lib.hid (less_is k1 k2 k3 x.1 x.2.1 x.2.2)
        cases hlx : lt3 (k1, k2, k3) x with
        | false =>
          have hlx' : lessB k1 k2 k3 x.1 x.2.1 x.2.2 = false := hlx
          rw [hlx'] at HLS
          have HST := Lib.hid (ins_step HI.out HXM.out hlx)
          clear hlx hlx'
          go_wp2_with fail
          refine (HLS.out w8).mono ?_
          rintro e w9 ⟨rfl, k9⟩
          have hb9 := hb8.kept k9 id
          have hs9 := hs8.kept k9 (fun _ _ f => f)
          have hK9 := hK8.trans k9 (fun _ _ f => f)
          clear hb8 hs8 hK8 k9 c0 c1 c2 d0 d1 d2
          go_wp2_with fail
          go_roundw
          case rel => exact ⟨m + 1, by omega, by go_num, HST, hb9, hs9, hK9⟩
          case measure => simp [intOf]; omega
        | true =>
          have hlx' : lessB k1 k2 k3 x.1 x.2.1 x.2.2 = true := hlx
          rw [hlx'] at HLS
          have HST := Lib.hid (ins_here HI.out HXM.out hlx)
          clear hlx hlx'
          go_wp2_with fail
          refine (HLS.out w8).mono ?_
          rintro e w9 ⟨rfl, k9⟩
          have hb9 := hb8.kept k9 id
          have hs9 := hs8.kept k9 (fun _ _ f => f)
          have hK9 := hK8.trans k9 (fun _ _ f => f)
          clear hb8 hs8 hK8 k9 c0 c1 c2 d0 d1 d2
          obtain ⟨c0, c1, c2⟩ : w9.cell? ⟨w.heap.size, 0, none⟩ = some (.int .i64 k1) ∧ w9.cell? ⟨w.heap.size, 1, none⟩ = some (.int .i64 k2) ∧ w9.cell? ⟨w.heap.size, 2, none⟩ = some (.int .i64 k3) := ⟨hb9.cell 0, hb9.cell 1, hb9.cell 2⟩
          go_wp2_with fail
          have hvk := Box.new w9 #[.int .i64 k1, .int .i64 k2, .int .i64 k3] 23
          have hgl := (hs9.lt g rfl).2
          have hs10 := hs9.kept ((Kept.refl No w9).alloc (.cells #[.int .i64 k1, .int .i64 k2, .int .i64 k3] 23)) (fun _ _ f => f)
          have hK10 := hK9.alloc (.cells #[.int .i64 k1, .int .i64 k2, .int .i64 k3] 23)
          have hz := hK10.size
          have hz2 := hb9.lt
          refine (insert_is _ (w.heap.size + 1) _ n xs hs10 (by simp; omega) (by omega) m hlt (k1, k2, k3) w9.heap.size hvk (by simp only [Value.ownBlock]; intro e; injection e with e; omega)).mono ?_
          rintro e w11 ⟨v', rfl, hs11, k11⟩
          have hK11 := hK10.trans k11 (fun q hq e => by have := (hs10.lt q e).1; omega)
          go_wp2_with fail
          go_ret
          exact ⟨v', n + 1, rfl, Nat.le_refl _, by rw [HA.out, HST.out]; exact hs11.mono (by omega), hK11⟩
      · obtain rfl : m = n := by omega
        have he : ins (k1, k2, k3) xs = xs ++ [(k1, k2, k3)] := by
          rw [HI.out, List.take_of_length_le (by have := HL.out; omega), List.drop_of_length_le (by have := HL.out; omega)]
          rfl
        have HE := Lib.hid he
        obtain ⟨c0, c1, c2⟩ : wr.cell? ⟨w.heap.size, 0, none⟩ = some (.int .i64 k1) ∧ wr.cell? ⟨w.heap.size, 1, none⟩ = some (.int .i64 k2) ∧ wr.cell? ⟨w.heap.size, 2, none⟩ = some (.int .i64 k3) := ⟨hb.cell 0, hb.cell 1, hb.cell 2⟩
        have hzl := hb.lt
        clear he
        go_wp2_with (at_builtin; refine wpList_append_seg rfl _ _ 34 rfl (w.heap.size + 1) 23 i0 (.agg #[.int .i64 0, .int .i64 0, .int .i64 0]) 3 24 Tryd.underlying34 hi0 hz0 hz1 hz2 rfl (by decide) _ _ _ rfl (hs.kept ((Kept.refl No _).alloc _) (fun _ _ f => f)) ⟨_, 0, none⟩ 1 1 (vals [k1, k2, k3]) rfl rfl ?c1 ?c2 ?c3 ?c4 ?c5 ?_)
        case c1 => exact cells_new _ _ _
        case c2 => exact one_ints _
        case c3 => unfold maxLen; omega
        case c4 => omega
        case c5 => simp; omega
        intro v3 w3 hs3 hg3 _
        have hK3 := (hK.alloc (.cells #[.int .i64 k1, .int .i64 k2, .int .i64 k3] 23)).grown hg3 (fun g hlt hg => by have := (hs.lt g hg).1; omega)
        clear c0 c1 c2 hb hg3
        go_wp2_with fail
        go_ret
        exact ⟨v3, m + 1, rfl, Nat.le_refl _, by rw [HA.out, HE.out, keyV_app]; exact hs3.mono (by omega), hK3⟩
end Go.Proofs.YtnggbfdnlmkklaaDoor.Line
