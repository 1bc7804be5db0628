/-
  A key added to others, plainly; the statement's own way to put one into any list.
-/
import Derived.Test.YtnggbfdnlmkklaaDoorKeyRef
import Derived.Test.YtnggbfdnlmkklaaDoorKeyAdd
set_option linter.unusedVariables false
namespace Go.Proofs.YtnggbfdnlmkklaaDoor.Line
open Go.RowKit Go.Sort Go.Proofs.YtnggbfdnlmkklaaDoor.Own Go.Proofs.YtnggbfdnlmkklaaDoor.Conv Go.Proofs.YtnggbfdnlmkklaaDoor.Calm

theorem drop_cons {xs : List K3} {m : Nat} {x : K3} (hx : xs[m]? = some x) : xs.drop m = x :: xs.drop (m + 1) := by
  have hm := (List.getElem?_eq_some_iff.1 hx).1
  rw [List.drop_eq_getElem_cons hm, (List.getElem?_eq_some_iff.1 hx).2]
theorem addR_put {k : K3} {xs done : List K3} {m : Nat} {x : K3} {l : List K3} (h : l = done ++ addR k true (xs.drop m)) (hx : xs[m]? = some x) : l = (done ++ [x]) ++ addR k true (xs.drop (m + 1)) := by
  rw [h, drop_cons hx, addR]
  simp
theorem addR_here {k : K3} {xs done : List K3} {m : Nat} {x : K3} {l : List K3} (h : l = done ++ addR k false (xs.drop m)) (hx : xs[m]? = some x) (hl : lt3 k x = true) : l = (done ++ [k] ++ [x]) ++ addR k true (xs.drop (m + 1)) := by
  rw [h, drop_cons hx, addR]
  simp [hl]
theorem addR_on {k : K3} {xs done : List K3} {m : Nat} {x : K3} {l : List K3} (h : l = done ++ addR k false (xs.drop m)) (hx : xs[m]? = some x) (hl : lt3 k x = false) : l = (done ++ [x]) ++ addR k (x == k) (xs.drop (m + 1)) := by
  rw [h, drop_cons hx, addR]
  simp [hl]
/-- What is still to be laid. -/
def insP (k : K3) (p : Bool) (l : List K3) : List K3 := if p then l else ins k l
theorem insP_put {k : K3} {xs done : List K3} {m : Nat} {x : K3} {l : List K3} (h : l = done ++ insP k true (xs.drop m)) (hx : xs[m]? = some x) : l = (done ++ [x]) ++ insP k true (xs.drop (m + 1)) := by
  rw [h, drop_cons hx]
  simp [insP]
theorem insP_here {k : K3} {xs done : List K3} {m : Nat} {x : K3} {l : List K3} (h : l = done ++ insP k false (xs.drop m)) (hx : xs[m]? = some x) (hl : lt3 k x = true) : l = (done ++ [k] ++ [x]) ++ insP k true (xs.drop (m + 1)) := by
  rw [h, drop_cons hx]
  simp [insP, ins, hl]
theorem insP_on {k : K3} {xs done : List K3} {m : Nat} {x : K3} {l : List K3} (h : l = done ++ insP k false (xs.drop m)) (hx : xs[m]? = some x) (hl : lt3 k x = false) : l = (done ++ [x]) ++ insP k false (xs.drop (m + 1)) := by
  rw [h, drop_cons hx]
  simp [insP, ins, hl]

theorem few_is (w : World) (v : Value) (n : Nat) (xs : List K3) (hx : Rd w 3 v n (keyV xs)) :
    Calls Tryd.prog 14 #[v] w fun e w' => w' = w ∧ ∃ v' m, e = .returned v' ∧ m ≤ 30 ∧ Rd w 3 v' m (keyV (xs.take 30)) := by
  have hlen : xs.length = n := by have := hx.len; rw [keyV_len] at this; omega
  have hx0 := hx
  obtain ⟨av, cv, rfl, hnc, hcm⟩ := key_slice hx
  by_cases h30 : 30 < n
  · obtain ⟨_, a, c, he, _, _, _, hR⟩ := hx0
    cases he
    obtain ⟨g, o, rfl, hg, hcell⟩ := hR (by omega)
    have hr : Rd w 3 (.slice (some ⟨g, o, none⟩) 30 cv) 30 (keyV (xs.take 30)) := by
      have e2 : keyV xs = keyV (xs.take 30) ++ keyV (xs.drop 30) := by rw [← keyV_app, List.take_append_drop]
      refine ⟨by rw [keyV_len, List.length_take]; omega, _, cv, rfl, by omega, by unfold maxLen; omega, (fun h => by cases h), fun _ => ⟨g, o, rfl, hg, fun j u hu => hcell j u ?_⟩⟩
      rw [e2, List.getElem?_append_left (List.getElem?_eq_some_iff.1 hu).1]
      exact hu
    have HR := Lib.hid hr
    have b1 : (30 : Int) ≤ (cv : Int) := by omega
    clear hx hR hcell hr hlen
    go_enter Tryd.func14, Tryd.ntmps14
    go_wp2_with fail
    go_ret
    exact ⟨rfl, _, 30, rfl, by omega, HR.out⟩
  · have hr : Rd w 3 (.slice av n cv) n (keyV (xs.take 30)) := by rw [List.take_of_length_le (by omega)]; exact hx
    have HR := Lib.hid hr
    clear hx hx0 hr hlen
    go_enter Tryd.func14, Tryd.ntmps14
    go_wp2_with fail
    go_ret
    exact ⟨rfl, _, n, rfl, by omega, HR.out⟩


set_option maxRecDepth 100000 in
set_option maxHeartbeats 16000000 in
theorem refadd_is (w : World) (v : Value) (n : Nat) (xs : List K3) (hx : Rd w 3 v n (keyV xs)) (hn : n ≤ 1000) (k1 k2 k3 : Int) :
    Calls Tryd.prog 16 #[v, .agg #[.int .i64 k1, .int .i64 k2, .int .i64 k3]] w fun e w' => ∃ v' m, e = .returned v' ∧ m ≤ 2 * n + 1 ∧ Seg w' w.heap.size 23 3 v' m (keyV (addR (k1, k2, k3) false xs)) ∧ Kept No w w' := by
  obtain ⟨i0, hi0, hz0, hz1, hz2⟩ := info_parts info_key
  have hlen : xs.length = n := by have := hx.len; rw [keyV_len] at this; omega
  obtain ⟨av, cv, rfl, hnc, hcm⟩ := key_slice hx
  have hk0 : Kept No w (w.alloc (.cells #[.int .i64 k1, .int .i64 k2, .int .i64 k3] 23)) := (Kept.refl _ _).alloc _
  have hb0 := Box.new w #[.int .i64 k1, .int .i64 k2, .int .i64 k3] 23
  have HX := Lib.hid hx
  have HL := Lib.hid hlen
  clear hx hlen
  go_enter Tryd.func16, Tryd.ntmps16
  go_wp2_with fail
  go_loopw [5, 6, 7] (fun o p i wr => ∃ (done : List K3) (q : Bool) (m : Nat), m ≤ n ∧ i = .int .i64 m ∧ p = .bool q ∧ Hid (addR (k1, k2, k3) false xs = done ++ addR (k1, k2, k3) q (xs.drop m)) ∧ Seg wr (w.heap.size + 1) 23 3 o done.length (keyV done) ∧ done.length ≤ 2 * m ∧ Box wr w.heap.size #[.int .i64 k1, .int .i64 k2, .int .i64 k3] 23 ∧ Kept No w wr) (fun _ _ i _ => n - (intOf i).toNat)
  case atStart => exact ⟨[], false, 0, by omega, rfl, rfl, Lib.hid (by simp), Seg.nil _ _ _ _, by simp, hb0, hk0⟩
  case round =>
    obtain ⟨done, q, m, hm, rfl, rfl, HD, hs, hdl, hb, hK⟩ := hrel
    clear hb0 hk0
    by_cases hlt : m < n
    · obtain ⟨x, hxm⟩ : ∃ x, xs[m]? = some x := ⟨_, List.getElem?_eq_getElem (by have := HL.out; omega)⟩
      obtain ⟨g, o, rfl, hg, e1, e2, e3⟩ := key_cells (HX.out.kept hK (fun _ _ f => f)) rfl m x hxm
      have j1 : (m : Int) < (n : Int) := by omega
      have hzl := hb.lt
      have cc1 : ∀ p : KW wr, p.w.cell? ⟨g, o + m * 3, none⟩ = some (.int .i64 x.1) := KW.old e1 hg
      have cc2 : ∀ p : KW wr, p.w.cell? ⟨g, o + m * 3 + 1, none⟩ = some (.int .i64 x.2.1) := KW.old e2 hg
      have cc3 : ∀ p : KW wr, p.w.cell? ⟨g, o + m * 3 + 2, none⟩ = some (.int .i64 x.2.2) := KW.old e3 hg
      obtain ⟨dd1, dd2, dd3⟩ := KW.box3 hb
      have HXM := Lib.hid hxm
      have HLS := Lib.hid (refless_is k1 k2 k3 x.1 x.2.1 x.2.2)
      clear hxm e1 e2 e3
      cases q with
      | true =>
        have HST := Lib.hid (addR_put HD.out HXM.out)
        go_upto_region 6 with fail
        refine wp_region_calm (by kernel_rfl) (by kernel_rfl) ?_
        repeat (go_big_quiet_step ((go_at_call 8; with_reducible exact calls_of _ (HLS.out _))))
        refine wpQuiet_nil ?_
        rintro _ ⟨pa, rfl⟩
        have hga : g < pa.w.heap.size := Nat.lt_of_lt_of_le hg pa.h.size
        have hba := hb.kept pa.h id
        have hsa := hs.kept pa.h (fun _ _ f => f)
        have hKa := hK.trans pa.h (fun _ _ f => f)
        have hra := HX.out.kept hKa (fun _ _ f => f)
        clear hb hs hK cc1 cc2 cc3 dd1 dd2 dd3
        generalize pa.w = wa at *
        obtain ⟨g', o', he', _, e1, e2, e3⟩ := key_cells hra rfl m x HXM.out
        cases he'
        have cc1 : ∀ p : KW wa, p.w.cell? ⟨g, o + m * 3, none⟩ = some (.int .i64 x.1) := KW.old e1 (by assumption)
        have cc2 : ∀ p : KW wa, p.w.cell? ⟨g, o + m * 3 + 1, none⟩ = some (.int .i64 x.2.1) := KW.old e2 (by assumption)
        have cc3 : ∀ p : KW wa, p.w.cell? ⟨g, o + m * 3 + 2, none⟩ = some (.int .i64 x.2.2) := KW.old e3 (by assumption)
        obtain ⟨dd1, dd2, dd3⟩ := KW.box3 hba
        clear e1 e2 e3
        go_upto_region 9 with fail
        refine wp_region_calm (by kernel_rfl) (by kernel_rfl) ?_
        repeat (go_big_quiet_step (fail))
        refine wpQuiet_nil ?_
        rintro _ ⟨pb, rfl⟩
        have hgb : g < pb.w.heap.size := Nat.lt_of_lt_of_le hga pb.h.size
        have hbb := hba.kept pb.h id
        have hsb := hsa.kept pb.h (fun _ _ f => f)
        have hKb := hKa.trans pb.h (fun _ _ f => f)
        have hrb := HX.out.kept hKb (fun _ _ f => f)
        clear hba hsa hKa hra cc1 cc2 cc3 dd1 dd2 dd3
        generalize pb.w = wb at *
        obtain ⟨g', o', he', _, e1, e2, e3⟩ := key_cells hrb rfl m x HXM.out
        cases he'
        go_wp2_with (at_builtin; refine wpList_append_seg rfl _ _ 34 rfl (w.heap.size + 1) 23 i0 (.agg #[.int .i64 0, .int .i64 0, .int .i64 0]) 3 24 Tryd.underlying34 hi0 hz0 hz1 hz2 rfl (by decide) _ _ _ rfl (hsb.kept ((Kept.refl No _).alloc _) (fun _ _ f => f)) ⟨_, 0, none⟩ 1 1 (vals [x.1, x.2.1, x.2.2]) rfl rfl ?c1 ?c2 ?c3 ?c4 ?c5 ?_)
        case c1 => first | exact cells_new _ _ _ | exact fun _ _ h => h
        case c2 => exact one_ints _
        case c3 => unfold maxLen; omega
        case c4 => omega
        case c5 =>
          have := hbb.lt
          first | omega | (simp; omega)
        intro vc wc hsc hgc _
        have kkc : Kept (fun q => u5.ownBlock = some q) wb wc := ((Kept.refl _ _).alloc (.cells #[.int .i64 x.1, .int .i64 x.2.1, .int .i64 x.2.2] 23)).grown hgc (fun _ _ e => e)
        have hKc := hKb.trans kkc (fun q hq e => by have := (hsb.lt q e).1; omega)
        have hbc := hbb.kept kkc (fun h => by have := (hsb.lt _ h).1; omega)
        clear e1 e2 e3 hsb hKb hrb hbb hgc kkc
        have hKcz := hKc
        go_wp2_with fail
        go_roundw
        case rel => exact ⟨done ++ [x], true, m + 1, by omega, by go_num, rfl, HST, by rw [keyV_app, List.length_append]; exact hsc, by simp; omega, hbc, hKcz⟩
        case measure => simp [intOf]; omega
      | false =>
        cases hlx : lt3 (k1, k2, k3) x with
        | true =>
          have hlx' : lessB k1 k2 k3 x.1 x.2.1 x.2.2 = true := hlx
          rw [hlx'] at HLS
          have HST := Lib.hid (addR_here HD.out HXM.out hlx)
          clear hlx hlx'
          go_upto_region 6 with fail
          refine wp_region_calm (by kernel_rfl) (by kernel_rfl) ?_
          repeat (go_big_quiet_step ((go_at_call 8; with_reducible exact calls_of _ (HLS.out _))))
          refine wpQuiet_nil ?_
          rintro _ ⟨pa, rfl⟩
          have hga : g < pa.w.heap.size := Nat.lt_of_lt_of_le hg pa.h.size
          have hba := hb.kept pa.h id
          have hsa := hs.kept pa.h (fun _ _ f => f)
          have hKa := hK.trans pa.h (fun _ _ f => f)
          have hra := HX.out.kept hKa (fun _ _ f => f)
          clear hb hs hK cc1 cc2 cc3 dd1 dd2 dd3
          generalize pa.w = wa at *
          obtain ⟨e1, e2, e3⟩ : wa.cell? ⟨w.heap.size, 0, none⟩ = some (.int .i64 k1) ∧ wa.cell? ⟨w.heap.size, 1, none⟩ = some (.int .i64 k2) ∧ wa.cell? ⟨w.heap.size, 2, none⟩ = some (.int .i64 k3) := ⟨hba.cell 0, hba.cell 1, hba.cell 2⟩
          go_wp2_with (at_builtin; refine wpList_append_seg rfl _ _ 34 rfl (w.heap.size + 1) 23 i0 (.agg #[.int .i64 0, .int .i64 0, .int .i64 0]) 3 24 Tryd.underlying34 hi0 hz0 hz1 hz2 rfl (by decide) _ _ _ rfl (hsa.kept ((Kept.refl No _).alloc _) (fun _ _ f => f)) ⟨_, 0, none⟩ 1 1 (vals [k1, k2, k3]) rfl rfl ?c1 ?c2 ?c3 ?c4 ?c5 ?_)
          case c1 => first | exact cells_new _ _ _ | exact fun _ _ h => h
          case c2 => exact one_ints _
          case c3 => unfold maxLen; omega
          case c4 => omega
          case c5 =>
            have := hba.lt
            first | omega | (simp; omega)
          intro vk wk hsk hgk _
          have kkk : Kept (fun q => u5.ownBlock = some q) wa wk := ((Kept.refl _ _).alloc (.cells #[.int .i64 k1, .int .i64 k2, .int .i64 k3] 23)).grown hgk (fun _ _ e => e)
          have hKk := hKa.trans kkk (fun q hq e => by have := (hsa.lt q e).1; omega)
          have hbk := hba.kept kkk (fun h => by have := (hsa.lt _ h).1; omega)
          have hggk : g < wk.heap.size := Nat.lt_of_lt_of_le hga kkk.size
          have hrk := HX.out.kept hKk (fun _ _ f => f)
          clear e1 e2 e3 hsa hKa hra hba hgk kkk
          have hgk := hggk
          clear hggk
          obtain ⟨g', o', he', _, e1, e2, e3⟩ := key_cells hrk rfl m x HXM.out
          cases he'
          have cc1 : ∀ p : KW wk, p.w.cell? ⟨g, o + m * 3, none⟩ = some (.int .i64 x.1) := KW.old e1 (by assumption)
          have cc2 : ∀ p : KW wk, p.w.cell? ⟨g, o + m * 3 + 1, none⟩ = some (.int .i64 x.2.1) := KW.old e2 (by assumption)
          have cc3 : ∀ p : KW wk, p.w.cell? ⟨g, o + m * 3 + 2, none⟩ = some (.int .i64 x.2.2) := KW.old e3 (by assumption)
          obtain ⟨dd1, dd2, dd3⟩ := KW.box3 hbk
          clear e1 e2 e3
          go_upto_region 9 with fail
          refine wp_region_calm (by kernel_rfl) (by kernel_rfl) ?_
          repeat (go_big_quiet_step (fail))
          refine wpQuiet_nil ?_
          rintro _ ⟨pb, rfl⟩
          have hgb : g < pb.w.heap.size := Nat.lt_of_lt_of_le hgk pb.h.size
          have hbb := hbk.kept pb.h id
          have hsb := hsk.kept pb.h (fun _ _ f => f)
          have hKb := hKk.trans pb.h (fun _ _ f => f)
          have hrb := HX.out.kept hKb (fun _ _ f => f)
          clear hbk hsk hKk hrk cc1 cc2 cc3 dd1 dd2 dd3
          generalize pb.w = wb at *
          obtain ⟨g', o', he', _, e1, e2, e3⟩ := key_cells hrb rfl m x HXM.out
          cases he'
          go_wp2_with (at_builtin; refine wpList_append_seg rfl _ _ 34 rfl (w.heap.size + 1) 23 i0 (.agg #[.int .i64 0, .int .i64 0, .int .i64 0]) 3 24 Tryd.underlying34 hi0 hz0 hz1 hz2 rfl (by decide) _ _ _ rfl (hsb.kept ((Kept.refl No _).alloc _) (fun _ _ f => f)) ⟨_, 0, none⟩ 1 1 (vals [x.1, x.2.1, x.2.2]) rfl rfl ?c1 ?c2 ?c3 ?c4 ?c5 ?_)
          case c1 => first | exact cells_new _ _ _ | exact fun _ _ h => h
          case c2 => exact one_ints _
          case c3 => unfold maxLen; omega
          case c4 => omega
          case c5 =>
            have := hbb.lt
            first | omega | (simp; omega)
          intro vc wc hsc hgc _
          have kkc : Kept (fun q => vk.ownBlock = some q) wb wc := ((Kept.refl _ _).alloc (.cells #[.int .i64 x.1, .int .i64 x.2.1, .int .i64 x.2.2] 23)).grown hgc (fun _ _ e => e)
          have hKc := hKb.trans kkc (fun q hq e => by have := (hsb.lt q e).1; omega)
          have hbc := hbb.kept kkc (fun h => by have := (hsb.lt _ h).1; omega)
          clear e1 e2 e3 hsb hKb hrb hbb hgc kkc
          have hKcz := hKc
          go_wp2_with fail
          go_roundw
          case rel => exact ⟨done ++ [(k1, k2, k3)] ++ [x], true, m + 1, by omega, by go_num, rfl, HST, by rw [keyV_app, keyV_app, List.append_assoc (keyV _), List.length_append, List.length_append]; exact hsc, by simp; omega, hbc, hKcz⟩
          case measure => simp [intOf]; omega
        | false =>
          have hlx' : lessB k1 k2 k3 x.1 x.2.1 x.2.2 = false := hlx
          rw [hlx'] at HLS
          have HST := Lib.hid (addR_on HD.out HXM.out hlx)
          clear hlx hlx'
          go_upto_region 6 with fail
          refine wp_region_calm (by kernel_rfl) (by kernel_rfl) ?_
          repeat (go_big_quiet_step ((go_at_call 8; with_reducible exact calls_of _ (HLS.out _))))
          refine wpQuiet_nil ?_
          rintro _ ⟨pa, rfl⟩
          have hga : g < pa.w.heap.size := Nat.lt_of_lt_of_le hg pa.h.size
          have hba := hb.kept pa.h id
          have hsa := hs.kept pa.h (fun _ _ f => f)
          have hKa := hK.trans pa.h (fun _ _ f => f)
          have hra := HX.out.kept hKa (fun _ _ f => f)
          clear hb hs hK cc1 cc2 cc3 dd1 dd2 dd3
          generalize pa.w = wa at *
          obtain ⟨x1, x2, x3⟩ := x
          by_cases hq : x1 = k1 ∧ x2 = k2 ∧ x3 = k3
          · obtain ⟨rfl, rfl, rfl⟩ := hq
            have HST2 : Hid (addR (x1, x2, x3) false xs = (done ++ [(x1, x2, x3)]) ++ addR (x1, x2, x3) true (xs.drop (m + 1))) := Lib.hid (by
              have := HST.out
              rwa [show ((x1, x2, x3) == (x1, x2, x3)) = true from by simp] at this)
            clear HST
            obtain ⟨g', o', he', _, e1, e2, e3⟩ := key_cells hra rfl m _ HXM.out
            cases he'
            have cc1 : ∀ p : KW wa, p.w.cell? ⟨g, o + m * 3, none⟩ = some (.int .i64 x1) := KW.old e1 (by assumption)
            have cc2 : ∀ p : KW wa, p.w.cell? ⟨g, o + m * 3 + 1, none⟩ = some (.int .i64 x2) := KW.old e2 (by assumption)
            have cc3 : ∀ p : KW wa, p.w.cell? ⟨g, o + m * 3 + 2, none⟩ = some (.int .i64 x3) := KW.old e3 (by assumption)
            obtain ⟨dd1, dd2, dd3⟩ := KW.box3 hba
            clear e1 e2 e3
            go_upto_region 9 with fail
            refine wp_region_calm (by kernel_rfl) (by kernel_rfl) ?_
            repeat (go_big_quiet_step (fail))
            refine wpQuiet_nil ?_
            rintro _ ⟨pb, rfl⟩
            have hgb : g < pb.w.heap.size := Nat.lt_of_lt_of_le hga pb.h.size
            have hbb := hba.kept pb.h id
            have hsb := hsa.kept pb.h (fun _ _ f => f)
            have hKb := hKa.trans pb.h (fun _ _ f => f)
            have hrb := HX.out.kept hKb (fun _ _ f => f)
            clear hba hsa hKa hra cc1 cc2 cc3 dd1 dd2 dd3
            generalize pb.w = wb at *
            obtain ⟨g', o', he', _, e1, e2, e3⟩ := key_cells hrb rfl m _ HXM.out
            cases he'
            simp only at e1 e2 e3
            go_wp2_with (at_builtin; refine wpList_append_seg rfl _ _ 34 rfl (w.heap.size + 1) 23 i0 (.agg #[.int .i64 0, .int .i64 0, .int .i64 0]) 3 24 Tryd.underlying34 hi0 hz0 hz1 hz2 rfl (by decide) _ _ _ rfl (hsb.kept ((Kept.refl No _).alloc _) (fun _ _ f => f)) ⟨_, 0, none⟩ 1 1 (vals [x1, x2, x3]) rfl rfl ?c1 ?c2 ?c3 ?c4 ?c5 ?_)
            case c1 => first | exact cells_new _ _ _ | exact fun _ _ h => h
            case c2 => exact one_ints _
            case c3 => unfold maxLen; omega
            case c4 => omega
            case c5 =>
              have := hbb.lt
              first | omega | (simp; omega)
            intro vc wc hsc hgc _
            have kkc : Kept (fun q => u5.ownBlock = some q) wb wc := ((Kept.refl _ _).alloc (.cells #[.int .i64 x1, .int .i64 x2, .int .i64 x3] 23)).grown hgc (fun _ _ e => e)
            have hKc := hKb.trans kkc (fun q hq e => by have := (hsb.lt q e).1; omega)
            have hbc := hbb.kept kkc (fun h => by have := (hsb.lt _ h).1; omega)
            clear e1 e2 e3 hsb hKb hrb hbb hgc kkc
            have hKcz := hKc
            go_wp2_with fail
            go_roundw
            case rel => exact ⟨done ++ [(x1, x2, x3)], true, m + 1, by omega, by go_num, rfl, HST2, by rw [keyV_app, List.length_append]; exact hsc, by simp; omega, hbc, hKcz⟩
            case measure => simp [intOf]; omega
          · have hne : ((x1, x2, x3) == (k1, k2, k3)) = false := by
              cases h : ((x1, x2, x3) == (k1, k2, k3))
              · rfl
              · simp only [beq_iff_eq, Prod.mk.injEq] at h
                exact absurd h hq
            have HST2 : Hid (addR (k1, k2, k3) false xs = (done ++ [(x1, x2, x3)]) ++ addR (k1, k2, k3) false (xs.drop (m + 1))) := Lib.hid (by
              have := HST.out
              rwa [hne] at this)
            have hqq : (x1 == k1 && (x2 == k2 && x3 == k3)) = false := hne
            have K : ∀ P : Prop, ((x1 == k1) = false → P) → ((x1 == k1) = true → (x2 == k2) = false → P) → ((x1 == k1) = true → (x2 == k2) = true → (x3 == k3) = false → P) → P := fun P a b c => by
              cases h1 : (x1 == k1)
              · exact a h1
              · cases h2 : (x2 == k2)
                · exact b h1 h2
                · exact c h1 h2 (by rw [h1, h2] at hqq; simpa using hqq)
            clear hq hqq hne HST
            refine K _ (fun h1 => ?_) (fun h1 h2 => ?_) (fun h1 h2 h3 => ?_)
            all_goals
              clear K
              obtain ⟨g', o', he', _, e1, e2, e3⟩ := key_cells hra rfl m _ HXM.out
              cases he'
              have cc1 : ∀ p : KW wa, p.w.cell? ⟨g, o + m * 3, none⟩ = some (.int .i64 x1) := KW.old e1 (by assumption)
              have cc2 : ∀ p : KW wa, p.w.cell? ⟨g, o + m * 3 + 1, none⟩ = some (.int .i64 x2) := KW.old e2 (by assumption)
              have cc3 : ∀ p : KW wa, p.w.cell? ⟨g, o + m * 3 + 2, none⟩ = some (.int .i64 x3) := KW.old e3 (by assumption)
              obtain ⟨dd1, dd2, dd3⟩ := KW.box3 hba
              clear e1 e2 e3
              go_upto_region 9 with fail
              refine wp_region_calm (by kernel_rfl) (by kernel_rfl) ?_
              repeat (go_big_quiet_step (fail))
              refine wpQuiet_nil ?_
              rintro _ ⟨pb, rfl⟩
              have hgb : g < pb.w.heap.size := Nat.lt_of_lt_of_le hga pb.h.size
              have hbb := hba.kept pb.h id
              have hsb := hsa.kept pb.h (fun _ _ f => f)
              have hKb := hKa.trans pb.h (fun _ _ f => f)
              have hrb := HX.out.kept hKb (fun _ _ f => f)
              clear hba hsa hKa hra cc1 cc2 cc3 dd1 dd2 dd3
              generalize pb.w = wb at *
              obtain ⟨g', o', he', _, e1, e2, e3⟩ := key_cells hrb rfl m _ HXM.out
              cases he'
              simp only at e1 e2 e3
              go_wp2_with (at_builtin; refine wpList_append_seg rfl _ _ 34 rfl (w.heap.size + 1) 23 i0 (.agg #[.int .i64 0, .int .i64 0, .int .i64 0]) 3 24 Tryd.underlying34 hi0 hz0 hz1 hz2 rfl (by decide) _ _ _ rfl (hsb.kept ((Kept.refl No _).alloc _) (fun _ _ f => f)) ⟨_, 0, none⟩ 1 1 (vals [x1, x2, x3]) rfl rfl ?c1 ?c2 ?c3 ?c4 ?c5 ?_)
              case c1 => first | exact cells_new _ _ _ | exact fun _ _ h => h
              case c2 => exact one_ints _
              case c3 => unfold maxLen; omega
              case c4 => omega
              case c5 =>
                have := hbb.lt
                first | omega | (simp; omega)
              intro vc wc hsc hgc _
              have kkc : Kept (fun q => u5.ownBlock = some q) wb wc := ((Kept.refl _ _).alloc (.cells #[.int .i64 x1, .int .i64 x2, .int .i64 x3] 23)).grown hgc (fun _ _ e => e)
              have hKc := hKb.trans kkc (fun q hq e => by have := (hsb.lt q e).1; omega)
              have hbc := hbb.kept kkc (fun h => by have := (hsb.lt _ h).1; omega)
              clear e1 e2 e3 hsb hKb hrb hbb hgc kkc
              have hKcz := hKc
              go_wp2_with fail
              go_roundw
              case rel => exact ⟨done ++ [(x1, x2, x3)], false, m + 1, by omega, by go_num, rfl, HST2, by rw [keyV_app, List.length_append]; exact hsc, by simp; omega, hbc, hKcz⟩
              case measure => simp [intOf]; omega
    · obtain rfl : m = n := by omega
      obtain ⟨cx0, cx1, cx2⟩ : wr.cell? ⟨w.heap.size, 0, none⟩ = some (.int .i64 k1) ∧ wr.cell? ⟨w.heap.size, 1, none⟩ = some (.int .i64 k2) ∧ wr.cell? ⟨w.heap.size, 2, none⟩ = some (.int .i64 k3) := ⟨hb.cell 0, hb.cell 1, hb.cell 2⟩
      have hzl := hb.lt
      have hdr : xs.drop m = [] := List.drop_of_length_le (by have := HL.out; omega)
      cases q with
      | true =>
        have he : addR (k1, k2, k3) false xs = done := by rw [HD.out, hdr]; simp [addR]
        have HE := Lib.hid he
        clear he hdr
        go_wp2_with fail
        go_ret
        exact ⟨_, done.length, rfl, by omega, by rw [HE.out]; exact hs.mono (by omega), hK⟩
      | false =>
        have he : addR (k1, k2, k3) false xs = done ++ [(k1, k2, k3)] := by rw [HD.out, hdr]; simp [addR]
        have HE := Lib.hid he
        clear he hdr
        go_wp2_with (at_builtin; refine wpList_append_seg rfl _ _ 34 rfl (w.heap.size + 1) 23 i0 (.agg #[.int .i64 0, .int .i64 0, .int .i64 0]) 3 24 Tryd.underlying34 hi0 hz0 hz1 hz2 rfl (by decide) _ _ _ rfl (hs.kept ((Kept.refl No _).alloc _) (fun _ _ f => f)) ⟨_, 0, none⟩ 1 1 (vals [k1, k2, k3]) rfl rfl ?c1 ?c2 ?c3 ?c4 ?c5 ?_)
        case c1 => first | exact cells_new _ _ _ | exact fun _ _ h => h
        case c2 => exact one_ints _
        case c3 => unfold maxLen; omega
        case c4 => omega
        case c5 =>
          have := hb.lt
          first | omega | (simp; omega)
        intro vz wz hsz hgz _
        have kkz : Kept (fun q => u5.ownBlock = some q) wr wz := ((Kept.refl _ _).alloc (.cells #[.int .i64 k1, .int .i64 k2, .int .i64 k3] 23)).grown hgz (fun _ _ e => e)
        have hKz := hK.trans kkz (fun q hq e => by have := (hs.lt q e).1; omega)
        clear cx0 cx1 cx2 kkz
        go_wp2_with fail
        go_ret
        exact ⟨vz, done.length + 1, rfl, by omega, by rw [HE.out, keyV_app]; exact hsz.mono (by omega), hKz⟩

set_option maxRecDepth 100000 in
set_option maxHeartbeats 16000000 in
theorem odd_is (w : World) (v : Value) (n : Nat) (xs : List K3) (hx : Rd w 3 v n (keyV xs)) (hn : n ≤ 999) (k1 k2 k3 : Int) :
    Calls Tryd.prog 21 #[v, .agg #[.int .i64 k1, .int .i64 k2, .int .i64 k3]] w fun e w' => e = .returned (.bool true) ∧ Kept No w w' := by
  obtain ⟨i0, hi0, hz0, hz1, hz2⟩ := info_parts info_key
  have hlen : xs.length = n := by have := hx.len; rw [keyV_len] at this; omega
  obtain ⟨av, cv, rfl, hnc, hcm⟩ := key_slice hx
  have hk0 : Kept No w (w.alloc (.cells #[.int .i64 k1, .int .i64 k2, .int .i64 k3] 23)) := (Kept.refl _ _).alloc _
  have hb0 := Box.new w #[.int .i64 k1, .int .i64 k2, .int .i64 k3] 23
  have HX := Lib.hid hx
  have HL := Lib.hid hlen
  clear hx hlen
  go_enter Tryd.func21, Tryd.ntmps21
  go_upto_region 2 with fail
  generalize w.alloc (.cells #[.int .i64 k1, .int .i64 k2, .int .i64 k3] 23) = w0 at *
  obtain ⟨c0, c1, c2⟩ : w0.cell? ⟨w.heap.size, 0, none⟩ = some (.int .i64 k1) ∧ w0.cell? ⟨w.heap.size, 1, none⟩ = some (.int .i64 k2) ∧ w0.cell? ⟨w.heap.size, 2, none⟩ = some (.int .i64 k3) := ⟨hb0.cell 0, hb0.cell 1, hb0.cell 2⟩
  obtain ⟨p0, hp0⟩ : ∃ b, decide ((k1, k2, k3) ∈ xs) = b := ⟨_, rfl⟩
  have hph := phas_is w0 (.slice av n cv) n xs (HX.out.kept hk0 (fun _ _ f => f)) k1 k2 k3
  rw [hp0] at hph
  have HPH := Lib.hid hph
  have hq0 : addC xs (k1, k2, k3) = insP (k1, k2, k3) p0 xs := by
    unfold addC insP
    rw [← hp0]
    by_cases h : (k1, k2, k3) ∈ xs <;> simp [h]
  have HQ := Lib.hid hq0
  clear hp0 hph hq0
  go_wp2_with fail
  refine HPH.out.mono ?_
  rintro e w1 ⟨rfl, k1'⟩
  have hb1 := hb0.kept k1' id
  have hk1 := hk0.trans k1' (fun _ _ f => f)
  clear c0 c1 c2 hb0 hk0 k1' HPH
  go_wp2_with fail
  go_loopw [5, 6, 7] (fun o p i wr => ∃ (done : List K3) (q : Bool) (m : Nat), m ≤ n ∧ i = .int .i64 m ∧ p = .bool q ∧ Hid (addC xs (k1, k2, k3) = done ++ insP (k1, k2, k3) q (xs.drop m)) ∧ Seg wr (w.heap.size + 1) 23 3 o done.length (keyV done) ∧ done.length ≤ 2 * m ∧ Box wr w.heap.size #[.int .i64 k1, .int .i64 k2, .int .i64 k3] 23 ∧ Kept No w wr) (fun _ _ i _ => n - (intOf i).toNat)
  case atStart => exact ⟨[], p0, 0, by omega, rfl, rfl, Lib.hid (by simpa using HQ.out), Seg.nil _ _ _ _, by simp, hb1, hk1⟩
  case round =>
    obtain ⟨done, q, m, hm, rfl, rfl, HD, hs, hdl, hb, hK⟩ := hrel
    clear hb1 hk1
    by_cases hlt : m < n
    · obtain ⟨x, hxm⟩ : ∃ x, xs[m]? = some x := ⟨_, List.getElem?_eq_getElem (by have := HL.out; omega)⟩
      obtain ⟨g, o, rfl, hg, e1, e2, e3⟩ := key_cells (HX.out.kept hK (fun _ _ f => f)) rfl m x hxm
      have j1 : (m : Int) < (n : Int) := by omega
      have hzl := hb.lt
      have cc1 : ∀ p : KW wr, p.w.cell? ⟨g, o + m * 3, none⟩ = some (.int .i64 x.1) := KW.old e1 hg
      have cc2 : ∀ p : KW wr, p.w.cell? ⟨g, o + m * 3 + 1, none⟩ = some (.int .i64 x.2.1) := KW.old e2 hg
      have cc3 : ∀ p : KW wr, p.w.cell? ⟨g, o + m * 3 + 2, none⟩ = some (.int .i64 x.2.2) := KW.old e3 hg
      obtain ⟨dd1, dd2, dd3⟩ := KW.box3 hb
      have HXM := Lib.hid hxm
      have HLS := Lib.hid (refless_is k1 k2 k3 x.1 x.2.1 x.2.2)
      clear hxm e1 e2 e3
      cases q with
      | true =>
        have HST := Lib.hid (insP_put HD.out HXM.out)
        go_upto_region 6 with fail
        refine wp_region_calm (by kernel_rfl) (by kernel_rfl) ?_
        repeat (go_big_quiet_step ((go_at_call 8; with_reducible exact calls_of _ (HLS.out _))))
        refine wpQuiet_nil ?_
        rintro _ ⟨pa, rfl⟩
        have hga : g < pa.w.heap.size := Nat.lt_of_lt_of_le hg pa.h.size
        have hba := hb.kept pa.h id
        have hsa := hs.kept pa.h (fun _ _ f => f)
        have hKa := hK.trans pa.h (fun _ _ f => f)
        have hra := HX.out.kept hKa (fun _ _ f => f)
        clear hb hs hK cc1 cc2 cc3 dd1 dd2 dd3
        generalize pa.w = wa at *
        obtain ⟨g', o', he', _, e1, e2, e3⟩ := key_cells hra rfl m x HXM.out
        cases he'
        go_wp2_with (at_builtin; refine wpList_append_seg rfl _ _ 34 rfl (w.heap.size + 1) 23 i0 (.agg #[.int .i64 0, .int .i64 0, .int .i64 0]) 3 24 Tryd.underlying34 hi0 hz0 hz1 hz2 rfl (by decide) _ _ _ rfl (hsa.kept ((Kept.refl No _).alloc _) (fun _ _ f => f)) ⟨_, 0, none⟩ 1 1 (vals [x.1, x.2.1, x.2.2]) rfl rfl ?c1 ?c2 ?c3 ?c4 ?c5 ?_)
        case c1 => first | exact cells_new _ _ _ | exact fun _ _ h => h
        case c2 => exact one_ints _
        case c3 => unfold maxLen; omega
        case c4 => omega
        case c5 =>
          have := hba.lt
          first | omega | (simp; omega)
        intro vc wc hsc hgc _
        have kkc : Kept (fun q => u5.ownBlock = some q) wa wc := ((Kept.refl _ _).alloc (.cells #[.int .i64 x.1, .int .i64 x.2.1, .int .i64 x.2.2] 23)).grown hgc (fun _ _ e => e)
        have hKc := hKa.trans kkc (fun q hq e => by have := (hsa.lt q e).1; omega)
        have hbc := hba.kept kkc (fun h => by have := (hsa.lt _ h).1; omega)
        clear e1 e2 e3 hsa hKa hra hba hgc kkc
        have hKcz := hKc
        go_wp2_with fail
        go_roundw
        case rel => exact ⟨done ++ [x], true, m + 1, by omega, by go_num, rfl, HST, by rw [keyV_app, List.length_append]; exact hsc, by simp; omega, hbc, hKcz⟩
        case measure => simp [intOf]; omega
      | false =>
        cases hlx : lt3 (k1, k2, k3) x with
        | true =>
          have hlx' : lessB k1 k2 k3 x.1 x.2.1 x.2.2 = true := hlx
          rw [hlx'] at HLS
          have HST := Lib.hid (insP_here HD.out HXM.out hlx)
          clear hlx hlx'
          go_upto_region 6 with fail
          refine wp_region_calm (by kernel_rfl) (by kernel_rfl) ?_
          repeat (go_big_quiet_step ((go_at_call 8; with_reducible exact calls_of _ (HLS.out _))))
          refine wpQuiet_nil ?_
          rintro _ ⟨pa, rfl⟩
          have hga : g < pa.w.heap.size := Nat.lt_of_lt_of_le hg pa.h.size
          have hba := hb.kept pa.h id
          have hsa := hs.kept pa.h (fun _ _ f => f)
          have hKa := hK.trans pa.h (fun _ _ f => f)
          have hra := HX.out.kept hKa (fun _ _ f => f)
          clear hb hs hK cc1 cc2 cc3 dd1 dd2 dd3
          generalize pa.w = wa at *
          obtain ⟨e1, e2, e3⟩ : wa.cell? ⟨w.heap.size, 0, none⟩ = some (.int .i64 k1) ∧ wa.cell? ⟨w.heap.size, 1, none⟩ = some (.int .i64 k2) ∧ wa.cell? ⟨w.heap.size, 2, none⟩ = some (.int .i64 k3) := ⟨hba.cell 0, hba.cell 1, hba.cell 2⟩
          go_wp2_with (at_builtin; refine wpList_append_seg rfl _ _ 34 rfl (w.heap.size + 1) 23 i0 (.agg #[.int .i64 0, .int .i64 0, .int .i64 0]) 3 24 Tryd.underlying34 hi0 hz0 hz1 hz2 rfl (by decide) _ _ _ rfl (hsa.kept ((Kept.refl No _).alloc _) (fun _ _ f => f)) ⟨_, 0, none⟩ 1 1 (vals [k1, k2, k3]) rfl rfl ?c1 ?c2 ?c3 ?c4 ?c5 ?_)
          case c1 => first | exact cells_new _ _ _ | exact fun _ _ h => h
          case c2 => exact one_ints _
          case c3 => unfold maxLen; omega
          case c4 => omega
          case c5 =>
            have := hba.lt
            first | omega | (simp; omega)
          intro vk wk hsk hgk _
          have kkk : Kept (fun q => u5.ownBlock = some q) wa wk := ((Kept.refl _ _).alloc (.cells #[.int .i64 k1, .int .i64 k2, .int .i64 k3] 23)).grown hgk (fun _ _ e => e)
          have hKk := hKa.trans kkk (fun q hq e => by have := (hsa.lt q e).1; omega)
          have hbk := hba.kept kkk (fun h => by have := (hsa.lt _ h).1; omega)
          have hggk : g < wk.heap.size := Nat.lt_of_lt_of_le hga kkk.size
          have hrk := HX.out.kept hKk (fun _ _ f => f)
          clear e1 e2 e3 hsa hKa hra hba hgk kkk
          have hgk := hggk
          clear hggk
          obtain ⟨g', o', he', _, e1, e2, e3⟩ := key_cells hrk rfl m x HXM.out
          cases he'
          go_wp2_with (at_builtin; refine wpList_append_seg rfl _ _ 34 rfl (w.heap.size + 1) 23 i0 (.agg #[.int .i64 0, .int .i64 0, .int .i64 0]) 3 24 Tryd.underlying34 hi0 hz0 hz1 hz2 rfl (by decide) _ _ _ rfl (hsk.kept ((Kept.refl No _).alloc _) (fun _ _ f => f)) ⟨_, 0, none⟩ 1 1 (vals [x.1, x.2.1, x.2.2]) rfl rfl ?c1 ?c2 ?c3 ?c4 ?c5 ?_)
          case c1 => first | exact cells_new _ _ _ | exact fun _ _ h => h
          case c2 => exact one_ints _
          case c3 => unfold maxLen; omega
          case c4 => omega
          case c5 =>
            have := hbk.lt
            first | omega | (simp; omega)
          intro vc wc hsc hgc _
          have kkc : Kept (fun q => vk.ownBlock = some q) wk wc := ((Kept.refl _ _).alloc (.cells #[.int .i64 x.1, .int .i64 x.2.1, .int .i64 x.2.2] 23)).grown hgc (fun _ _ e => e)
          have hKc := hKk.trans kkc (fun q hq e => by have := (hsk.lt q e).1; omega)
          have hbc := hbk.kept kkc (fun h => by have := (hsk.lt _ h).1; omega)
          clear e1 e2 e3 hsk hKk hrk hbk hgc kkc
          have hKcz := hKc
          go_wp2_with fail
          go_roundw
          case rel => exact ⟨done ++ [(k1, k2, k3)] ++ [x], true, m + 1, by omega, by go_num, rfl, HST, by rw [keyV_app, keyV_app, List.append_assoc (keyV _), List.length_append, List.length_append]; exact hsc, by simp; omega, hbc, hKcz⟩
          case measure => simp [intOf]; omega
        | false =>
          have hlx' : lessB k1 k2 k3 x.1 x.2.1 x.2.2 = false := hlx
          rw [hlx'] at HLS
          have HST := Lib.hid (insP_on HD.out HXM.out hlx)
          clear hlx hlx'
          go_upto_region 6 with fail
          refine wp_region_calm (by kernel_rfl) (by kernel_rfl) ?_
          repeat (go_big_quiet_step ((go_at_call 8; with_reducible exact calls_of _ (HLS.out _))))
          refine wpQuiet_nil ?_
          rintro _ ⟨pa, rfl⟩
          have hga : g < pa.w.heap.size := Nat.lt_of_lt_of_le hg pa.h.size
          have hba := hb.kept pa.h id
          have hsa := hs.kept pa.h (fun _ _ f => f)
          have hKa := hK.trans pa.h (fun _ _ f => f)
          have hra := HX.out.kept hKa (fun _ _ f => f)
          clear hb hs hK cc1 cc2 cc3 dd1 dd2 dd3
          generalize pa.w = wa at *
          obtain ⟨g', o', he', _, e1, e2, e3⟩ := key_cells hra rfl m x HXM.out
          cases he'
          go_wp2_with (at_builtin; refine wpList_append_seg rfl _ _ 34 rfl (w.heap.size + 1) 23 i0 (.agg #[.int .i64 0, .int .i64 0, .int .i64 0]) 3 24 Tryd.underlying34 hi0 hz0 hz1 hz2 rfl (by decide) _ _ _ rfl (hsa.kept ((Kept.refl No _).alloc _) (fun _ _ f => f)) ⟨_, 0, none⟩ 1 1 (vals [x.1, x.2.1, x.2.2]) rfl rfl ?c1 ?c2 ?c3 ?c4 ?c5 ?_)
          case c1 => first | exact cells_new _ _ _ | exact fun _ _ h => h
          case c2 => exact one_ints _
          case c3 => unfold maxLen; omega
          case c4 => omega
          case c5 =>
            have := hba.lt
            first | omega | (simp; omega)
          intro vc wc hsc hgc _
          have kkc : Kept (fun q => u5.ownBlock = some q) wa wc := ((Kept.refl _ _).alloc (.cells #[.int .i64 x.1, .int .i64 x.2.1, .int .i64 x.2.2] 23)).grown hgc (fun _ _ e => e)
          have hKc := hKa.trans kkc (fun q hq e => by have := (hsa.lt q e).1; omega)
          have hbc := hba.kept kkc (fun h => by have := (hsa.lt _ h).1; omega)
          clear e1 e2 e3 hsa hKa hra hba hgc kkc
          have hKcz := hKc
          go_wp2_with fail
          go_roundw
          case rel => exact ⟨done ++ [x], false, m + 1, by omega, by go_num, rfl, HST, by rw [keyV_app, List.length_append]; exact hsc, by simp; omega, hbc, hKcz⟩
          case measure => simp [intOf]; omega
    · obtain rfl : m = n := by omega
      obtain ⟨cx0, cx1, cx2⟩ : wr.cell? ⟨w.heap.size, 0, none⟩ = some (.int .i64 k1) ∧ wr.cell? ⟨w.heap.size, 1, none⟩ = some (.int .i64 k2) ∧ wr.cell? ⟨w.heap.size, 2, none⟩ = some (.int .i64 k3) := ⟨hb.cell 0, hb.cell 1, hb.cell 2⟩
      have hzl := hb.lt
      have hdr : xs.drop m = [] := List.drop_of_length_le (by have := HL.out; omega)
      cases q with
      | true =>
        have he : addC xs (k1, k2, k3) = done := by rw [HD.out, hdr]; simp [insP]
        have HE := Lib.hid he
        clear he hdr cx0 cx1 cx2
        have hbT := hb
        obtain ⟨cy0, cy1, cy2⟩ : wr.cell? ⟨w.heap.size, 0, none⟩ = some (.int .i64 k1) ∧ wr.cell? ⟨w.heap.size, 1, none⟩ = some (.int .i64 k2) ∧ wr.cell? ⟨w.heap.size, 2, none⟩ = some (.int .i64 k3) := ⟨hbT.cell 0, hbT.cell 1, hbT.cell 2⟩
        have hrT := HX.out.kept hK (fun _ _ f => f)
        go_wp2_with fail
        refine (add_is wr _ m xs hrT (by omega) k1 k2 k3).mono ?_
        rintro e wA ⟨vA, mA, rfl, hmA, hsA, kA⟩
        have hsB := hs.kept kA (fun _ _ f => f)
        have hKA := hK.trans kA (fun _ _ f => f)
        clear cy0 cy1 cy2 hbT
        go_wp2_with fail
        refine (same_is wA vA _ mA _ (addC xs (k1, k2, k3)) (done) hsA.rd hsB.rd).mono ?_
        rw [decide_eq_true HE.out]
        rintro e wB ⟨rfl, kB⟩
        have hKB := hKA.trans kB (fun _ _ f => f)
        go_wp2_with fail
        go_ret
        exact ⟨rfl, hKB⟩
      | false =>
        have he : addC xs (k1, k2, k3) = done ++ [(k1, k2, k3)] := by rw [HD.out, hdr]; simp [insP, ins]
        have HE := Lib.hid he
        clear he hdr
        go_wp2_with (at_builtin; refine wpList_append_seg rfl _ _ 34 rfl (w.heap.size + 1) 23 i0 (.agg #[.int .i64 0, .int .i64 0, .int .i64 0]) 3 24 Tryd.underlying34 hi0 hz0 hz1 hz2 rfl (by decide) _ _ _ rfl (hs.kept ((Kept.refl No _).alloc _) (fun _ _ f => f)) ⟨_, 0, none⟩ 1 1 (vals [k1, k2, k3]) rfl rfl ?c1 ?c2 ?c3 ?c4 ?c5 ?_)
        case c1 => first | exact cells_new _ _ _ | exact fun _ _ h => h
        case c2 => exact one_ints _
        case c3 => unfold maxLen; omega
        case c4 => omega
        case c5 =>
          have := hb.lt
          first | omega | (simp; omega)
        intro vz wz hsz hgz _
        have kkz : Kept (fun q => u5.ownBlock = some q) wr wz := ((Kept.refl _ _).alloc (.cells #[.int .i64 k1, .int .i64 k2, .int .i64 k3] 23)).grown hgz (fun _ _ e => e)
        have hKz := hK.trans kkz (fun q hq e => by have := (hs.lt q e).1; omega)
        have hsz : Seg wz (w.heap.size + 1) 23 3 vz (done.length + 1) (keyV (done ++ [(k1, k2, k3)])) := by rw [keyV_app]; exact hsz
        have hbz := hb.kept kkz (fun h => by have := (hs.lt _ h).1; omega)
        clear cx0 cx1 cx2 kkz
        have hbT := hbz
        obtain ⟨cy0, cy1, cy2⟩ : wz.cell? ⟨w.heap.size, 0, none⟩ = some (.int .i64 k1) ∧ wz.cell? ⟨w.heap.size, 1, none⟩ = some (.int .i64 k2) ∧ wz.cell? ⟨w.heap.size, 2, none⟩ = some (.int .i64 k3) := ⟨hbT.cell 0, hbT.cell 1, hbT.cell 2⟩
        have hrT := HX.out.kept hKz (fun _ _ f => f)
        go_wp2_with fail
        refine (add_is wz _ m xs hrT (by omega) k1 k2 k3).mono ?_
        rintro e wA ⟨vA, mA, rfl, hmA, hsA, kA⟩
        have hsB := hsz.kept kA (fun _ _ f => f)
        have hKA := hKz.trans kA (fun _ _ f => f)
        clear cy0 cy1 cy2 hbT
        go_wp2_with fail
        refine (same_is wA vA _ mA _ (addC xs (k1, k2, k3)) (done ++ [(k1, k2, k3)]) hsA.rd hsB.rd).mono ?_
        rw [decide_eq_true HE.out]
        rintro e wB ⟨rfl, kB⟩
        have hKB := hKA.trans kB (fun _ _ f => f)
        go_wp2_with fail
        go_ret
        exact ⟨rfl, hKB⟩
end Go.Proofs.YtnggbfdnlmkklaaDoor.Line
