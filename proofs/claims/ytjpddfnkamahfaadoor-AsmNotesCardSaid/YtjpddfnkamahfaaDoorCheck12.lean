/-
  An instruction that may be, as the code and as the reference tell it.
-/
import Derived.Test.YtjpddfnkamahfaaDoorFits
set_option linter.unusedVariables false
set_option linter.unusedSimpArgs false
namespace Go.Proofs.YtjpddfnkamahfaaDoor.Line
open Go.RowKit Go.Sort Go.Proofs.YtjpddfnkamahfaaDoor.Own Go.Proofs.YtjpddfnkamahfaaDoor.Conv Go.Proofs.YtjpddfnkamahfaaDoor.Calm

def fitK (z a b c n r s code : Int) (k : Nat) : Bool := fitB (((shapeZ z)[k]?.getD 0).toNat : Int) (fldZ a b c n k) r s code
def allK (z a b c n r s code : Int) : Bool := (List.range 4).all (fitK z a b c n r s code)
def checkZ (z a b c n r s code : Int) : Int := if 1 ≤ z ∧ z ≤ 25 then (if allK z a b c n r s code = true then 0 else 3) else 2
theorem check_yes {z a b c n r s code : Int} (hin : 1 ≤ z ∧ z ≤ 25) (h : ∀ k, k < 4 → fitK z a b c n r s code k = true) : checkZ z a b c n r s code = 0 := by
  rw [checkZ, if_pos hin, if_pos]
  exact List.all_eq_true.2 fun k hk => h k (List.mem_range.1 hk)
theorem check_no {z a b c n r s code : Int} (hin : 1 ≤ z ∧ z ≤ 25) {k : Nat} (hk : k < 4) (h : fitK z a b c n r s code k = false) : checkZ z a b c n r s code = 3 := by
  rw [checkZ, if_pos hin, if_neg]
  intro ha
  have h1 := List.all_eq_true.1 ha k (List.mem_range.2 hk)
  rw [h] at h1
  cases h1
theorem check_bad {z a b c n r s code : Int} (hin : ¬ (1 ≤ z ∧ z ≤ 25)) : checkZ z a b c n r s code = 2 := by
  rw [checkZ, if_neg hin]

set_option maxRecDepth 100000 in
set_option maxHeartbeats 4000000 in
theorem check_is (z a b c n r cc s code : Int) (u : Value) (hr : int64 r) (hs : int64 s) (w : World) :
    Calls Tryd.prog 51 #[.agg #[.int .i64 z, .int .i64 a, .int .i64 b, .int .i64 c, .int .i64 n], .agg #[.int .i64 r, .int .i64 cc, .int .i64 s, u], .int .i64 code] w fun e w' => e = .returned (.int .i64 (checkZ z a b c n r s code)) ∧ Kept No w w' := by
  have hx := (Box.new w #[.int .i64 z, .int .i64 a, .int .i64 b, .int .i64 c, .int .i64 n] 25).alloc (.cells #[.int .i64 r, .int .i64 cc, .int .i64 s, u] 32)
  have hp := Box.new (w.alloc (.cells #[.int .i64 z, .int .i64 a, .int .i64 b, .int .i64 c, .int .i64 n] 25)) #[.int .i64 r, .int .i64 cc, .int .i64 s, u] 32
  rw [World.size_alloc] at hp
  have hk : Kept No w ((w.alloc (.cells #[.int .i64 z, .int .i64 a, .int .i64 b, .int .i64 c, .int .i64 n] 25)).alloc (.cells #[.int .i64 r, .int .i64 cc, .int .i64 s, u] 32)) := ((Kept.refl _ _).alloc _).alloc _
  have HX := Lib.hid hx
  have HP := Lib.hid hp
  have HK := Lib.hid hk
  have HR := Lib.hid hr
  have HS := Lib.hid hs
  clear hx hp hk hr hs
  by_cases hin : 1 ≤ z ∧ z ≤ 25
  · have hs4 := shape_four hin
    have hlet := shape_letter z
    obtain ⟨ss, hss⟩ : ∃ s : ByteArray, (⟨(shapeZ z).toArray⟩ : ByteArray) = s := ⟨_, rfl⟩
    have hsz : ss.size = 4 := by rw [← hss]; simp [ByteArray.size, hs4]
    have hget : ∀ k (h : k < ss.size), (shapeZ z)[k]? = some (ss[k]'h) := by
      subst hss
      intro k h
      rw [List.getElem?_eq_getElem (by simpa [ByteArray.size] using h)]
      rfl
    have hne : ss.toList.isEmpty = false := by
      rw [toList_mk2 hss]
      cases h : shapeZ z with
      | nil => rw [h] at hs4; cases hs4
      | cons x r => rfl
    have Hget := Lib.hid hget
    have Hlet := Lib.hid hlet
    have HSS := Lib.hid hss
    have hs1 : ss.size ≤ 4 := by omega
    have hs2 : 4 ≤ ss.size := by omega
    have HIN := Lib.hid hin
    clear hget hss hs4 hsz hin hlet
    go_enter Tryd.func51, Tryd.ntmps51
    go_wp2_with fail
    refine (opshape_is z _).mono ?_
    rw [HSS.out]
    rintro e w1 ⟨rfl, k1⟩
    have hx1 := HX.out.kept k1 id
    have hp1 := HP.out.kept k1 id
    have hk1 := HK.out.trans k1 (fun _ _ f => f)
    have c1 : w1.cell? ⟨w.heap.size, 1, none⟩ = some (.int .i64 a) := hx1.cell 1
    have c2 : w1.cell? ⟨w.heap.size, 2, none⟩ = some (.int .i64 b) := hx1.cell 2
    have c3 : w1.cell? ⟨w.heap.size, 3, none⟩ = some (.int .i64 c) := hx1.cell 3
    have c4 : w1.cell? ⟨w.heap.size, 4, none⟩ = some (.int .i64 n) := hx1.cell 4
    have HP1 := Lib.hid hp1
    clear k1 hx1 hp1 HX HP HK
    go_wp2_with fail
    go_loopw [24] (fun i wr => ∃ k : Nat, k ≤ 4 ∧ i = .int .i64 k ∧ Hid (∀ q, q < k → fitK z a b c n r s code q = true) ∧ Kept No w1 wr) (fun i _ => 4 - (intOf i).toNat)
    case atStart => exact ⟨0, by omega, rfl, Lib.hid (fun q hq => by omega), Kept.refl _ _⟩
    case round =>
      obtain ⟨k, hk, rfl, hall, hK⟩ := hrel
      clear c1 c2 c3 c4
      by_cases hlt : k < 4
      · have hlt2 : k < ss.size := by omega
        have hg := Hget.out k hlt2
        have hl := Hlet.out k _ hg
        have hfk : fitK z a b c n r s code k = fitB ((ss[k]'hlt2).toNat : Int) (fldZ a b c n k) r s code := by rw [fitK, hg]; rfl
        have hpr := HP1.out.kept hK id
        obtain ⟨p0, p1, p2, p3⟩ := KW.box4 hpr
        have d1 : ∀ p : KW wr, Calls Tryd.prog 60 #[.int .u8 (ss[k]'hlt2).toNat, .int .i64 (fldZ a b c n k), .agg #[.int .i64 r, .int .i64 cc, .int .i64 s, u], .int .i64 code] p.w fun e w' => e = .returned (.bool (fitB ((ss[k]'hlt2).toNat : Int) (fldZ a b c n k) r s code)) ∧ Kept No p.w w' := fun p => fits_is _ _ r cc s code u HR.out HS.out hl p.w
        have D1 := Lib.hid d1
        have HK1 := Lib.hid hk1
        have HKr := Lib.hid hK
        clear hg hl hpr d1 hk1 hK
        obtain ⟨fb, hfb⟩ : ∃ f : Bool, fitB ((ss[k]'hlt2).toNat : Int) (fldZ a b c n k) r s code = f := ⟨_, rfl⟩
        rw [hfb] at D1 hfk
        have HF := Lib.hid hfk
        clear hfk hfb
        have hk4 : k = 0 ∨ k = 1 ∨ k = 2 ∨ k = 3 := by omega
        have hzk : (k : Int) < (ss.size : Int) := by omega
        rcases hk4 with rfl | rfl | rfl | rfl
        all_goals
          simp only [Int.natCast_zero, Int.natCast_one, Int.cast_ofNat_Int] at hzk ⊢
          go_upto_region 7 with fail
          first | rw [idx0] | rw [idx1] | rw [idx2] | rw [idx3]
          go_upto_region 7 with fail
          first | rw [show fldZ a b c n ((0 : Nat) : Int) = a from rfl] at D1 | rw [show fldZ a b c n ((1 : Nat) : Int) = b from rfl] at D1 | rw [show fldZ a b c n ((2 : Nat) : Int) = c from rfl] at D1 | rw [show fldZ a b c n ((3 : Nat) : Int) = n from rfl] at D1
          refine wp_region_calm (by kernel_rfl) (by kernel_rfl) ?_
          repeat (go_big_quiet_step ((go_at_call 60; with_reducible exact calls_of _ (D1.out _))))
          refine wpQuiet_nil ?_
          rintro _ ⟨p, rfl⟩
          have hK2 := HKr.out.trans p.h (fun _ _ f => f)
          generalize p.w = w2 at *
          clear p0 p1 p2 p3 D1
          cases fb
          · go_wp2_with fail
            go_ret
            exact ⟨by rw [check_no HIN.out hlt HF.out]; rfl, HK1.out.trans hK2 (fun _ _ f => f)⟩
          · go_wp2_with fail
            go_roundw
            case rel => exact ⟨_ + 1, by omega, rfl, Lib.hid (fun q hq => (Nat.lt_succ_iff_lt_or_eq.1 hq).elim (fun h => hall.out q h) (fun h => h ▸ HF.out)), hK2⟩
            case measure => simp [intOf]
      · obtain rfl : k = 4 := by omega
        go_wp2_with fail
        go_ret
        exact ⟨by rw [check_yes HIN.out hall.out]; rfl, hk1.trans hK (fun _ _ f => f)⟩
  · have HZ : Hid (checkZ z a b c n r s code = 2) := Lib.hid (check_bad hin)
    have hsh := shapeZ_out hin
    have HSH := Lib.hid hsh
    clear hsh hin
    go_enter Tryd.func51, Tryd.ntmps51
    go_wp2_with fail
    refine (opshape_is z _).mono ?_
    rw [HSH.out]
    rintro e w1 ⟨rfl, k1⟩
    have hk1 := HK.out.trans k1 (fun _ _ f => f)
    clear k1
    go_wp2_with fail
    go_ret
    exact ⟨by rw [HZ.out]; rfl, hk1⟩

set_option maxRecDepth 100000 in
set_option maxHeartbeats 4000000 in
theorem refcheck_is (z a b c n r cc s code : Int) (u : Value) (hr : int64 r) (hs : int64 s) (w : World) :
    Calls Tryd.prog 27 #[.agg #[.int .i64 z, .int .i64 a, .int .i64 b, .int .i64 c, .int .i64 n], .agg #[.int .i64 r, .int .i64 cc, .int .i64 s, u], .int .i64 code] w fun e w' => e = .returned (.int .i64 (checkZ z a b c n r s code)) ∧ Kept No w w' := by
  have hx := (Box.new w #[.int .i64 z, .int .i64 a, .int .i64 b, .int .i64 c, .int .i64 n] 25).alloc (.cells #[.int .i64 r, .int .i64 cc, .int .i64 s, u] 32)
  have hp := Box.new (w.alloc (.cells #[.int .i64 z, .int .i64 a, .int .i64 b, .int .i64 c, .int .i64 n] 25)) #[.int .i64 r, .int .i64 cc, .int .i64 s, u] 32
  rw [World.size_alloc] at hp
  have hk : Kept No w ((w.alloc (.cells #[.int .i64 z, .int .i64 a, .int .i64 b, .int .i64 c, .int .i64 n] 25)).alloc (.cells #[.int .i64 r, .int .i64 cc, .int .i64 s, u] 32)) := ((Kept.refl _ _).alloc _).alloc _
  have HX := Lib.hid hx
  have HP := Lib.hid hp
  have HK := Lib.hid hk
  have HR := Lib.hid hr
  have HS := Lib.hid hs
  clear hx hp hk hr hs
  by_cases hin : 1 ≤ z ∧ z ≤ 25
  · have hs4 := shape_four hin
    have hlet := shape_letter z
    obtain ⟨ss, hss⟩ : ∃ s : ByteArray, (⟨(shapeZ z).toArray⟩ : ByteArray) = s := ⟨_, rfl⟩
    have hsz : ss.size = 4 := by rw [← hss]; simp [ByteArray.size, hs4]
    have hget : ∀ k (h : k < ss.size), (shapeZ z)[k]? = some (ss[k]'h) := by
      subst hss
      intro k h
      rw [List.getElem?_eq_getElem (by simpa [ByteArray.size] using h)]
      rfl
    have hne : ss.toList.isEmpty = false := by
      rw [toList_mk2 hss]
      cases h : shapeZ z with
      | nil => rw [h] at hs4; cases hs4
      | cons x r => rfl
    have Hget := Lib.hid hget
    have Hlet := Lib.hid hlet
    have HSS := Lib.hid hss
    have hs1 : ss.size ≤ 4 := by omega
    have hs2 : 4 ≤ ss.size := by omega
    have HIN := Lib.hid hin
    clear hget hss hs4 hsz hin hlet
    go_enter Tryd.func27, Tryd.ntmps27
    go_wp2_with fail
    refine (refshape_is z _).mono ?_
    rw [HSS.out]
    rintro e w1 ⟨rfl, k1⟩
    have hx1 := HX.out.kept k1 id
    have hp1 := HP.out.kept k1 id
    have hk1 := HK.out.trans k1 (fun _ _ f => f)
    have HX1 := Lib.hid hx1
    have HP1 := Lib.hid hp1
    clear k1 hx1 hp1 HX HP HK
    go_wp2_with fail
    go_loopw [8] (fun i wr => ∃ k : Nat, k ≤ 4 ∧ i = .int .i64 k ∧ Hid (∀ q, q < k → fitK z a b c n r s code q = true) ∧ Kept No w1 wr) (fun i _ => 4 - (intOf i).toNat)
    case atStart => exact ⟨0, by omega, rfl, Lib.hid (fun q hq => by omega), Kept.refl _ _⟩
    case round =>
      obtain ⟨k, hk, rfl, hall, hK⟩ := hrel
      by_cases hlt : k < 4
      · have hlt2 : k < ss.size := by omega
        have hzk : (k : Int) < (ss.size : Int) := by omega
        have hg := Hget.out k hlt2
        have hl := Hlet.out k _ hg
        have hfk : fitK z a b c n r s code k = fitB ((ss[k]'hlt2).toNat : Int) (fldZ a b c n k) r s code := by rw [fitK, hg]; rfl
        have hxr := HX1.out.kept hK id
        have c0 : wr.cell? ⟨w.heap.size, 0, none⟩ = some (.int .i64 z) := hxr.cell 0
        have c1 : wr.cell? ⟨w.heap.size, 1, none⟩ = some (.int .i64 a) := hxr.cell 1
        have c2 : wr.cell? ⟨w.heap.size, 2, none⟩ = some (.int .i64 b) := hxr.cell 2
        have c3 : wr.cell? ⟨w.heap.size, 3, none⟩ = some (.int .i64 c) := hxr.cell 3
        have c4 : wr.cell? ⟨w.heap.size, 4, none⟩ = some (.int .i64 n) := hxr.cell 4
        have d1 : ∀ w : World, Calls Tryd.prog 44 #[.int .u8 (ss[k]'hlt2).toNat, .agg #[.int .i64 r, .int .i64 cc, .int .i64 s, u], .int .i64 code] w fun e w' => e = .returned (.int .i64 (mostZ ((ss[k]'hlt2).toNat : Int) r s code)) ∧ Kept No w w' := fun w => most_is _ r cc s code u HR.out HS.out hl w
        have D1 := Lib.hid d1
        have HK1 := Lib.hid hk1
        have HKr := Lib.hid hK
        have Hall := Lib.hid hall.out
        clear hg hl hxr d1 hk1 hK hall
        obtain ⟨fv, hfv⟩ : ∃ f : Int, fldZ a b c n k = f := ⟨_, rfl⟩
        obtain ⟨mv, hmv⟩ : ∃ f : Int, mostZ ((ss[k]'hlt2).toNat : Int) r s code = f := ⟨_, rfl⟩
        rw [hmv] at D1
        rw [hfv, fitB, hmv] at hfk
        have HF := Lib.hid hfk
        clear hfk hmv
        go_upto_region 7 with fail
        go_wp2_with (go_at_call 43; refine (reffield_is z a b c n k _).mono ?_)
        rw [hfv]
        rintro e w2 ⟨rfl, k2⟩
        have hK2 := HKr.out.trans k2 (fun _ _ f => f)
        have hp2 := HP1.out.kept hK2 id
        have HK2 := Lib.hid hK2
        obtain ⟨p0, p1, p2, p3⟩ := KW.box4 hp2
        have d1 : ∀ p : KW w2, Calls Tryd.prog 44 #[.int .u8 (ss[k]'hlt2).toNat, .agg #[.int .i64 r, .int .i64 cc, .int .i64 s, u], .int .i64 code] p.w fun e w' => e = .returned (.int .i64 mv) ∧ Kept No p.w w' := fun p => D1.out p.w
        have E1 := Lib.hid d1
        clear k2 c0 c1 c2 c3 c4 hfv hK2 hp2 HKr D1 d1
        go_upto_region 8 with fail
        by_cases h110 : ((ss[k]'hlt2).toNat : Int) = 110
        · have e1 : (((ss[k]'hlt2).toNat : Int) != 110) = false := by rw [h110]; rfl
          have hF : Hid (fitK z a b c n r s code k = true) := Lib.hid (by rw [HF.out, h110]; rfl)
          clear h110
          refine wp_region_calm (by kernel_rfl) (by kernel_rfl) ?_
          repeat (go_big_quiet_step (fail))
          refine wpQuiet_nil ?_
          rintro _ ⟨p, rfl⟩
          have hK3 := HK2.out.trans p.h (fun _ _ f => f)
          generalize p.w = w3 at *
          clear p0 p1 p2 p3 E1
          go_wp2_with fail
          go_roundw
          case rel => exact ⟨k + 1, by omega, by go_num, Lib.hid (fun q hq => (Nat.lt_succ_iff_lt_or_eq.1 hq).elim (fun h => Hall.out q h) (fun h => h ▸ hF.out)), hK3⟩
          case measure => simp [intOf]; omega
        · have e1 : (((ss[k]'hlt2).toNat : Int) != 110) = true := by simp [h110]
          have h110' : (((ss[k]'hlt2).toNat : Int) == 110) = false := by simp [h110]
          rw [h110', Bool.false_or] at HF
          clear h110 h110'
          by_cases h0 : fv < 0
          · have e2 : decide (fv < 0) = true := decide_eq_true h0
            have hF : Hid (fitK z a b c n r s code k = false) := Lib.hid (by rw [HF.out, decide_eq_false (by omega)]; rfl)
            clear h0
            refine wp_region_calm (by kernel_rfl) (by kernel_rfl) ?_
            repeat (go_big_quiet_step (fail))
            refine wpQuiet_nil ?_
            rintro _ ⟨p, rfl⟩
            have hK3 := HK2.out.trans p.h (fun _ _ f => f)
            generalize p.w = w3 at *
            clear p0 p1 p2 p3 E1
            go_wp2_with fail
            go_ret
            exact ⟨by rw [check_no HIN.out hlt hF.out]; rfl, HK1.out.trans hK3 (fun _ _ f => f)⟩
          · have e2 : decide (fv < 0) = false := decide_eq_false h0
            have hF : Hid (fitK z a b c n r s code k = decide (fv ≤ mv)) := Lib.hid (by rw [HF.out, decide_eq_true (show 0 ≤ fv by omega)]; rfl)
            clear h0
            by_cases h1 : mv < fv
            · have e3 : decide (mv < fv) = true := decide_eq_true h1
              have hF2 : Hid (fitK z a b c n r s code k = false) := Lib.hid (by rw [hF.out, decide_eq_false (by omega)])
              clear h1
              refine wp_region_calm (by kernel_rfl) (by kernel_rfl) ?_
              repeat (go_big_quiet_step ((go_at_call 44; with_reducible exact calls_of _ (E1.out _))))
              refine wpQuiet_nil ?_
              rintro _ ⟨p, rfl⟩
              have hK3 := HK2.out.trans p.h (fun _ _ f => f)
              generalize p.w = w3 at *
              clear p0 p1 p2 p3 E1
              go_wp2_with fail
              go_ret
              exact ⟨by rw [check_no HIN.out hlt hF2.out]; rfl, HK1.out.trans hK3 (fun _ _ f => f)⟩
            · have e3 : decide (mv < fv) = false := decide_eq_false h1
              have hF2 : Hid (fitK z a b c n r s code k = true) := Lib.hid (by rw [hF.out, decide_eq_true (by omega)])
              clear h1
              refine wp_region_calm (by kernel_rfl) (by kernel_rfl) ?_
              repeat (go_big_quiet_step ((go_at_call 44; with_reducible exact calls_of _ (E1.out _))))
              refine wpQuiet_nil ?_
              rintro _ ⟨p, rfl⟩
              have hK3 := HK2.out.trans p.h (fun _ _ f => f)
              generalize p.w = w3 at *
              clear p0 p1 p2 p3 E1
              go_wp2_with fail
              go_roundw
              case rel => exact ⟨k + 1, by omega, by go_num, Lib.hid (fun q hq => (Nat.lt_succ_iff_lt_or_eq.1 hq).elim (fun h => Hall.out q h) (fun h => h ▸ hF2.out)), hK3⟩
              case measure => simp [intOf]; omega
      · obtain rfl : k = 4 := by omega
        go_wp2_with fail
        go_ret
        exact ⟨by rw [check_yes HIN.out hall.out]; rfl, hk1.trans hK (fun _ _ f => f)⟩
  · have HZ : Hid (checkZ z a b c n r s code = 2) := Lib.hid (check_bad hin)
    have hsh := shapeZ_out hin
    have HSH := Lib.hid hsh
    clear hsh hin
    go_enter Tryd.func27, Tryd.ntmps27
    go_wp2_with fail
    refine (refshape_is z _).mono ?_
    rw [HSH.out]
    rintro e w1 ⟨rfl, k1⟩
    have hk1 := HK.out.trans k1 (fun _ _ f => f)
    clear k1
    go_wp2_with fail
    go_ret
    exact ⟨by rw [HZ.out]; rfl, hk1⟩
end Go.Proofs.YtjpddfnkamahfaaDoor.Line
