/-
  KeysTexts answers true, whatever the key and the text are. Condition: the seven variables that the row lists lie as their initialisers lay them.
-/
import Derived.Test.YtnggbfdnlmkklaaDoorKeyNear
import Derived.Test.YtnggbfdnlmkklaaDoorOpenRows
import Derived.BigQuiet
import Derived.Deep.DeepCutAuto
import Derived.Deep.CutBlock
import Derived.Lay
import Derived.MakeChecks
import Derived.Test.YtnggbfdnlmkklaaDoorDoor
import Derived.Test.YtnggbfdnlmkklaaDoorOpen
import Derived.Test.YtnggbfdnlmkklaaDoorCards
import Derived.Test.YtnggbfdnlmkklaaDoorTie
set_option linter.unusedVariables false
namespace Go.Proofs.YtnggbfdnlmkklaaDoor.keysTexts
open Go.RowKit Go.Sort Go.Proofs.YtnggbfdnlmkklaaDoor.Own Go.Proofs.YtnggbfdnlmkklaaDoor.Conv Go.Proofs.YtnggbfdnlmkklaaDoor.Line Go.Proofs.YtnggbfdnlmkklaaDoor.Calm

set_option maxRecDepth 100000 in
set_option maxHeartbeats 8000000 in
theorem walk3 (w : World) (hT : Door.Tabs w) (k i j : Int) (s : ByteArray) (hs : s.size ≤ maxLen) :
    Calls Tryd.prog 4 #[.agg #[.int .i64 k, .int .i64 i, .int .i64 j], .string s] w fun e w' => e = .returned (.bool true) ∧ Below w.heap.size w w' := by
  unfold maxLen at hs
  obtain ⟨l, hl⟩ : ∃ l, s.data.toList.take 40 = l := ⟨_, rfl⟩
  have hlen : l.length ≤ 40 := by rw [← hl, List.length_take]; omega
  have e1 := cut_eq s 40
  have e2 := cut_no s 40
  rw [hl] at e1 e2
  have E1 := Lib.hid e1
  have E2 := Lib.hid e2
  have HB := Lib.hid (Box.new w #[.int .i64 k, .int .i64 i, .int .i64 j] 23)
  have hk : Kept No w (w.alloc (.cells #[.int .i64 k, .int .i64 i, .int .i64 j] 23)) := (Kept.refl _ _).alloc _
  have HK := Lib.hid hk
  have HT := Lib.hid hT
  have HP := Lib.hid (parse_is l (by omega))
  clear hl e1 e2 hk hT
  go_enter Tryd.func4, Tryd.ntmps4
  go_wp2_with fail
  refine (alive_is _ (HT.out.kept HK.out)).mono ?_
  rintro e w1 ⟨rfl, k1⟩
  have hb1 := HB.out.kept k1 id
  have hk1 := HK.out.trans k1 (fun _ _ f => f)
  clear HB HK k1
  go_upto_region 3 with fail
  rename_i K1 hK1 K hK
  have rest : ∀ u13 u14 u15 u16 u17 : Value, K1 { tmps := #[.agg #[.int .i64 k, .int .i64 i, .int .i64 j], .string ⟨l.toArray⟩, .pointer (some ⟨w.heap.size, 0, none⟩), undef, .bool false, undef, undef, undef, undef, undef, undef, .bool true, .bool false, u13, u14, u15, u16, u17, undef, undef, undef, undef, undef, undef, undef, undef, undef, undef, undef, undef, undef, undef, undef, undef, undef, undef, undef, undef, undef, undef, undef, undef, undef, undef, undef, undef, undef, undef, undef, undef, undef, undef, undef, undef, undef, undef, undef, undef, undef, undef, undef, undef, undef, undef, undef, undef, undef, undef, undef, undef, undef, undef, undef, undef, undef, undef, undef, undef, undef, undef], defers := [] } w1 := by
    intros
    refine hK1 _ _ ?_
    dsimp only
    clear hK1 hK E1 E2 hs
    go_upto_region 6 with fail
    have hb2 := hb1.alloc (.cells nameN 9)
    have hn2 := Box.new w1 nameN 9
    have hk2 := hk1.alloc (.cells nameN 9)
    have hin2 := hb1.lt
    unfold nameN at hb2 hn2 hk2
    generalize w1.alloc _ = w2 at *
    generalize w1.heap.size = bn at *
    change Box w2 bn nameN 9 at hn2
    clear hb1 hk1
    go_wp2_with fail
    refine (HP.out _ (HT.out.kept hk2)).mono ?_
    rintro e w3 ⟨rfl, k3⟩
    have hb3 := hb2.kept k3 id
    have hn3 := hn2.kept k3 id
    have hk3 := hk2.trans k3 (fun _ _ f => f)
    clear hb2 hn2 hk2 k3 HP
    go_upto_region 7 with fail
    rename_i K3 hK3 K2 hK2
    have rest2 : ∀ (w4 : World), Box w4 w.heap.size #[.int .i64 k, .int .i64 i, .int .i64 j] 23 → Box w4 bn nameN 9 → Kept No w w4 → ∀ u6 u7 u13 u14 u15 u16 u17 u18 u19 u20 u21 u22 u23 u24 u25 u26 u27 u28 u29 u30 u31 u32 u33 u34 u35 u36 u37 u38 u39 : Value, K3 { tmps := #[.agg #[.int .i64 k, .int .i64 i, .int .i64 j], .string ⟨l.toArray⟩, .pointer (some ⟨w.heap.size, 0, none⟩), undef, .bool false, .slice (some ⟨bn, 0, none⟩) 6 6, u6, u7, undef, undef, undef, .bool true, .bool false, u13, u14, u15, u16, u17, u18, u19, u20, u21, u22, u23, u24, u25, u26, u27, u28, u29, u30, u31, u32, u33, u34, u35, u36, u37, u38, u39, undef, undef, undef, undef, undef, undef, undef, undef, undef, undef, undef, undef, undef, undef, undef, undef, undef, undef, undef, undef, undef, undef, undef, undef, undef, undef, undef, undef, undef, undef, undef, undef, undef, undef, undef, undef, undef, undef, undef, undef], defers := [] } w4 := by
      clear hb3 hn3 hk3 hK2
      intro w4 hb4 hn4 hk4
      intros
      refine hK3 _ _ ?_
      dsimp only
      clear hK3
      have c0 : w4.cell? ⟨w.heap.size, 0, none⟩ = some (.int .i64 k) := hb4.cell 0
      have c1 : w4.cell? ⟨w.heap.size, 1, none⟩ = some (.int .i64 i) := hb4.cell 1
      have c2 : w4.cell? ⟨w.heap.size, 2, none⟩ = some (.int .i64 j) := hb4.cell 2
      have hI := is_is k i j w4
      have hX := text_is k i j
      cases hkey : isKey k i j with
      | false =>
        rw [hkey] at hI
        rw [show keyT k i j = [] by rw [keyT, hkey]; rfl] at hX
        have HX := Lib.hid hX
        clear hX hkey
        go_wp2_with fail
        refine hI.mono ?_
        rintro e w5 ⟨rfl, k5⟩
        have hb5 := hb4.kept k5 id
        have hk5 := hk4.trans k5 (fun _ _ f => f)
        have d0 : w5.cell? ⟨w.heap.size, 0, none⟩ = some (.int .i64 k) := hb5.cell 0
        have d1 : w5.cell? ⟨w.heap.size, 1, none⟩ = some (.int .i64 i) := hb5.cell 1
        have d2 : w5.cell? ⟨w.heap.size, 2, none⟩ = some (.int .i64 j) := hb5.cell 2
        clear c0 c1 c2 hb4 hk4 hI k5
        go_wp2_with fail
        refine (HX.out _ (HT.out.kept hk5)).mono ?_
        rintro e w6 ⟨rfl, k6⟩
        have hk6 := hk5.trans k6 (fun _ _ f => f)
        go_wp2_with fail
        go_ret
        exact ⟨rfl, hk6.below (Nat.le_refl _) (fun _ _ => id)⟩
      | true =>
        rw [hkey] at hI
        go_wp2_with fail
        refine hI.mono ?_
        rintro e w5 ⟨rfl, k5⟩
        have hb5 := hb4.kept k5 id
        have hn5 := hn4.kept k5 id
        have hk5 := hk4.trans k5 (fun _ _ f => f)
        clear c0 c1 c2 hb4 hn4 hk4 hI k5
        have hkk := hkey
        unfold isKey at hkk
        simp only [decide_eq_true_eq] at hkk
        obtain ⟨⟨a1, a2⟩, ⟨a3, a4⟩, a5, a6⟩ := hkk
        obtain ⟨m, hm⟩ : ∃ m : Nat, k - 1 = (m : Int) := ⟨(k - 1).toNat, by omega⟩
        have hm6 : m < 6 := by omega
        obtain ⟨st, hst⟩ : ∃ s : ByteArray, (⟨(keyT k i j).toArray⟩ : ByteArray) = s := ⟨_, rfl⟩
        obtain ⟨sn, hsn⟩ : ∃ s : ByteArray, (⟨(nameOf k).toArray⟩ : ByteArray) = s := ⟨_, rfl⟩
        obtain ⟨si, hsi⟩ : ∃ s : ByteArray, (⟨(Lib.itoa i).toArray⟩ : ByteArray) = s := ⟨_, rfl⟩
        obtain ⟨sj, hsj⟩ : ∃ s : ByteArray, (⟨(Lib.itoa j).toArray⟩ : ByteArray) = s := ⟨_, rfl⟩
        have zn : sn.size ≤ 12 := by rw [← hsn, mk_size]; exact (kind_name k (by omega) (by omega)).2.2
        have zi : si.size ≤ 21 := by rw [← hsi, mk_size]; exact itoa_len ⟨by omega, by omega⟩
        have zj : sj.size ≤ 21 := by rw [← hsj, mk_size]; exact itoa_len ⟨by omega, by omega⟩
        have z1 : (⟨#[32]⟩ : ByteArray).size = 1 := rfl
        have hqq : ((((sn ++ ⟨#[32]⟩) ++ si) ++ ⟨#[32]⟩) ++ sj) = st := by
          rw [← hst, ← hsn, ← hsi, ← hsj, show (⟨#[32]⟩ : ByteArray) = ⟨([32] : List UInt8).toArray⟩ from rfl, app_mk, app_mk, app_mk, app_mk, keyT_of hkey]
          simp [Lib.join]
        obtain ⟨s1, hq1⟩ : ∃ s1, sn ++ ⟨#[32]⟩ = s1 := ⟨_, rfl⟩
        rw [hq1] at hqq
        have y1 : s1.size ≤ 13 := by rw [← hq1, ByteArray.size_append]; omega
        obtain ⟨s2, hq2⟩ : ∃ s2, s1 ++ si = s2 := ⟨_, rfl⟩
        rw [hq2] at hqq
        have y2 : s2.size ≤ 34 := by rw [← hq2, ByteArray.size_append]; omega
        obtain ⟨s3, hq3⟩ : ∃ s3, s2 ++ ⟨#[32]⟩ = s3 := ⟨_, rfl⟩
        rw [hq3] at hqq
        have y3 : s3.size ≤ 35 := by rw [← hq3, ByteArray.size_append]; omega
        have y4 : st.size ≤ 56 := by rw [← hqq, ByteArray.size_append]; omega
        have hN : ∀ w : World, Calls Tryd.prog 12 #[.int .i64 (k - 1), .int .i64 0, .int .i64 5] w fun e w' => e = .returned (.int .i64 m) ∧ Kept No w w' := fun w => by
          have := near_in (k - 1) 0 5 (by omega) (by omega) w
          rw [← hm]
          exact this
        have hpa := parse_text hkey
        have hP2 : ∀ w : World, Door.Tabs w → Calls Tryd.prog 10 #[.string st] w fun e w' => e = .returned (.tuple #[.agg #[.int .i64 k, .int .i64 i, .int .i64 j], .bool true]) ∧ Kept No w w' := fun w hT => by
          have := parse_is (keyT k i j) (by have := keyT_len hkey; omega) w hT
          rw [hpa, hst] at this
          exact this
        rw [hst] at hX
        have e1 : ∀ p : KW w5, Calls Tryd.prog 13 #[.int .i64 i] p.w fun e w' => e = .returned (.string si) ∧ Kept No p.w w' := fun p => by rw [← hsi]; exact decimal_is i (by omega) (by omega) p.w (HT.out.kept (hk5.trans p.h (fun _ _ f => f)))
        have e2 : ∀ p : KW w5, Calls Tryd.prog 13 #[.int .i64 j] p.w fun e w' => e = .returned (.string sj) ∧ Kept No p.w w' := fun p => by rw [← hsj]; exact decimal_is j (by omega) (by omega) p.w (HT.out.kept (hk5.trans p.h (fun _ _ f => f)))
        have nm : w5.cell? ⟨bn, m, none⟩ = some (.string sn) := by
          rw [hn5.cell, nameN_at m hm6, ← hm, show k - 1 + 1 = k by omega, hsn]
        have nmp : ∀ p : KW w5, p.w.cell? ⟨bn, m, none⟩ = some (.string sn) := KW.old nm hn5.lt
        have i0 : (0 : Int) ≤ (m : Int) := by omega
        have i1 : (m : Int) < 6 := by omega
        obtain ⟨c0, c1, c2⟩ := KW.box3 hb5
        have HN := Lib.hid hN
        have HP2 := Lib.hid hP2
        have HX := Lib.hid hX
        have HE1 := Lib.hid e1
        have HE2 := Lib.hid e2
        have HKL := Lib.hid (keyT_len hkey)
        clear hX hN hP2 e1 e2 nm hn5 hpa hst hsn hsi hsj hm hm6 hkey
        go_upto_region 11 with fail
        refine wp_region_calm (by kernel_rfl) (by kernel_rfl) ?_
        repeat (go_big_quiet_step (first | (go_at_call 12; with_reducible exact calls_of _ (HN.out _)) | (go_at_call 13; with_reducible exact calls_of _ (HE1.out _)) | (go_at_call 13; with_reducible exact calls_of _ (HE2.out _))))
        refine wpQuiet_nil ?_
        rintro _ ⟨p, rfl⟩
        have hb6 := hb5.kept p.h id
        have hk6 := hk5.trans p.h (fun _ _ f => f)
        generalize p.w = w6 at *
        clear c0 c1 c2 nmp hb5 hk5 HE1 HE2 HN
        go_wp2_with fail
        refine (HP2.out _ (HT.out.kept hk6)).mono ?_
        rintro e w7 ⟨rfl, k7⟩
        have hk7 := hk6.trans k7 (fun _ _ f => f)
        have hb7 := hb6.kept k7 id
        have hb8 := hb7.alloc (.cells #[.int .i64 k, .int .i64 i, .int .i64 j] 23)
        have hy8 := Box.new w7 #[.int .i64 k, .int .i64 i, .int .i64 j] 23
        have hk8 := hk7.alloc (.cells #[.int .i64 k, .int .i64 i, .int .i64 j] 23)
        clear hb6 hk6 hb7 hk7 k7
        go_upto_region 13 with fail
        generalize w7.alloc (.cells #[.int .i64 k, .int .i64 i, .int .i64 j] 23) = w8 at *
        generalize w7.heap.size = by8 at *
        have c0 : w8.cell? ⟨w.heap.size, 0, none⟩ = some (.int .i64 k) := hb8.cell 0
        have c1 : w8.cell? ⟨w.heap.size, 1, none⟩ = some (.int .i64 i) := hb8.cell 1
        have c2 : w8.cell? ⟨w.heap.size, 2, none⟩ = some (.int .i64 j) := hb8.cell 2
        go_wp2_with fail
        refine (HX.out _ (HT.out.kept hk8)).mono ?_
        rintro e w9 ⟨rfl, k9⟩
        have hb9 := hb8.kept k9 id
        have hy9 := hy8.kept k9 id
        have hk9 := hk8.trans k9 (fun _ _ f => f)
        have d0 : w9.cell? ⟨w.heap.size, 0, none⟩ = some (.int .i64 k) := hb9.cell 0
        have d1 : w9.cell? ⟨w.heap.size, 1, none⟩ = some (.int .i64 i) := hb9.cell 1
        have d2 : w9.cell? ⟨w.heap.size, 2, none⟩ = some (.int .i64 j) := hb9.cell 2
        have e0 : w9.cell? ⟨by8, 0, none⟩ = some (.int .i64 k) := hy9.cell 0
        have e1 : w9.cell? ⟨by8, 1, none⟩ = some (.int .i64 i) := hy9.cell 1
        have e2 : w9.cell? ⟨by8, 2, none⟩ = some (.int .i64 j) := hy9.cell 2
        have hss : (st.toList == st.toList) = true := by simp
        clear c0 c1 c2 hb8 hy8 hk8 k9 hb9 hy9
        go_wp2_with fail
        go_ret
        exact ⟨rfl, hk9.below (Nat.le_refl _) (fun _ _ => id)⟩
    have HR2 := Lib.hid rest2
    clear rest2 hK3
    cases hp : parseL l with
    | none =>
      simp only [Option.getD_none, Option.isSome_none]
      have hb4 := hb3.alloc (.cells #[.int .i64 0, .int .i64 0, .int .i64 0] 23)
      have hn4 := hn3.alloc (.cells #[.int .i64 0, .int .i64 0, .int .i64 0] 23)
      have hk4 := hk3.alloc (.cells #[.int .i64 0, .int .i64 0, .int .i64 0] 23)
      have hx4 := Box.new w3 #[.int .i64 0, .int .i64 0, .int .i64 0] 23
      clear hb3 hn3 hk3 hp
      generalize w3.alloc (.cells #[.int .i64 0, .int .i64 0, .int .i64 0] 23) = w4 at *
      generalize w3.heap.size = bx at *
      have c0 : w4.cell? ⟨bx, 0, none⟩ = some (.int .i64 0) := hx4.cell 0
      have c1 : w4.cell? ⟨bx, 1, none⟩ = some (.int .i64 0) := hx4.cell 1
      have c2 : w4.cell? ⟨bx, 2, none⟩ = some (.int .i64 0) := hx4.cell 2
      go_wp2_with fail

      exact HR2.out w4 hb4 hn4 hk4 _ _ _ _ _ _ _ _ _ _ _ _ _ _ _ _ _ _ _ _ _ _ _ _ _ _ _ _ _
    | some x =>
      obtain ⟨a, b, c⟩ := x
      simp only [Option.getD_some, Option.isSome_some]
      have hb4 := hb3.alloc (.cells #[.int .i64 a, .int .i64 b, .int .i64 c] 23)
      have hn4 := hn3.alloc (.cells #[.int .i64 a, .int .i64 b, .int .i64 c] 23)
      have hk4 := hk3.alloc (.cells #[.int .i64 a, .int .i64 b, .int .i64 c] 23)
      have hx4 := Box.new w3 #[.int .i64 a, .int .i64 b, .int .i64 c] 23
      have hX := fun w hT => text_is a b c w hT
      rw [parse_back hp] at hX
      have HX := Lib.hid hX
      obtain ⟨sl, hsl⟩ : ∃ s : ByteArray, (⟨l.toArray⟩ : ByteArray) = s := ⟨_, rfl⟩
      rw [hsl] at HX HR2 ⊢
      have hss : (sl.toList == sl.toList) = true := by simp
      clear hb3 hn3 hk3 hp hX
      generalize w3.alloc (.cells #[.int .i64 a, .int .i64 b, .int .i64 c] 23) = w4 at *
      generalize w3.heap.size = bx at *
      have c0 : w4.cell? ⟨bx, 0, none⟩ = some (.int .i64 a) := hx4.cell 0
      have c1 : w4.cell? ⟨bx, 1, none⟩ = some (.int .i64 b) := hx4.cell 1
      have c2 : w4.cell? ⟨bx, 2, none⟩ = some (.int .i64 c) := hx4.cell 2
      go_wp2_with fail
      refine (HX.out _ (HT.out.kept hk4)).mono ?_
      rintro e w5 ⟨rfl, k5⟩
      have hb5 := hb4.kept k5 id
      have hn5 := hn4.kept k5 id
      have hk5 := hk4.trans k5 (fun _ _ f => f)
      clear c0 c1 c2 hb4 hn4 hk4 hx4 k5
      go_wp2_with fail
      exact HR2.out w5 hb5 hn5 hk5 _ _ _ _ _ _ _ _ _ _ _ _ _ _ _ _ _ _ _ _ _ _ _ _ _ _ _ _ _
  clear hK1
  have HR := Lib.hid rest
  clear rest
  by_cases h40 : 40 < s.size
  · have E1o := E1.out
    clear hb1 hk1 HT HP
    go_wp2_with fail
    exact HR.out _ _ _ _ _
  · have E2o := E2.out (by omega)
    clear hb1 hk1 HT HP
    go_wp2_with fail
    exact HR.out _ _ _ _ _

theorem walk (w : World) (hT : Door.Tabs w) (xs : List Int) (hl : xs.length = Tryd.prog.cellsOf 23) (wf : ∀ z ∈ xs, (Lit.int .i64 z).wf = true) (s : ByteArray) (hs : s.size ≤ maxLen) :
    Calls Tryd.prog 4 #[.agg (vals xs).toArray, .string s] w fun e w' => e = .returned (.bool true) ∧ Below w.heap.size w w' := by
  have h3 : xs.length = 3 := hl.trans (by kernel_rfl)
  match xs, h3 with
  | [k, i, j], _ => exact walk3 w hT k i j s hs

section
open Go.ChangeShapes Go.WideShapes Go.ChangeAt Go.ChangeMaps Go.RowKit Go.Proofs.YtnggbfdnlmkklaaDoor.Own Go.Proofs.YtnggbfdnlmkklaaDoor.Open Go.Proofs.YtnggbfdnlmkklaaDoor.Door

theorem own : ownKnob Tryd.prog.godebug = none := by kernel_rfl
theorem laidOut : laidOutB Tryd.prog = true := by kernel_rfl

theorem door_met (os : Os) (args : Array Value) : laidMetH Tryd.prog Rows.keysTextsRow.laid ((World.laidAll Tryd.prog os Rows.keysTextsRow.laid).forCall (fun _ _ => 0) ⟨#[], args, []⟩).memory := by
  rw [MakeChecks.laidMetH_plain _ _ _ (by kernel_rfl)]
  exact laidMet_laidAll _ (by kernel_rfl) (by kernel_rfl)

set_option maxRecDepth 100000 in
theorem lifted (os : Os) (started : os.Started) (H : Type) (enc : TypeId × Value → H) :
    ReturnsInHanded {} Tryd.checked os 4 .any (fun w args => (Rows.keysTextsSpec.pre enc Tryd.prog Tryd.f4 [] false w args ∧ laidMetH Tryd.prog Rows.keysTextsRow.laid w) ∧ sizedMet enc Tryd.prog Tryd.f4 (OpenSpec.ofChange Rows.keysTextsSpec) false w args) (Rows.keysTextsSpec.post enc Tryd.prog Tryd.f4 false true false false) := by
  refine returnsInHanded_of_change_and (C := Tryd.checked) (X := fun w _ => laidMetH Tryd.prog Rows.keysTextsRow.laid w) (fun _ _ _ hh h => h.of_heap hh) own started (by kernel_rfl) Tryd.func4
    (ChangeSpec.witness_shaped (enc := enc) (C := Tryd.checked) (os := os) (X := fun w _ => laidMetH Tryd.prog Rows.keysTextsRow.laid w) false (World.laidAll Tryd.prog os Rows.keysTextsRow.laid) #[.agg #[.int .i64 0, .int .i64 0, .int .i64 0], .string ⟨#[]⟩] 8 (World.laidAll_os _ _ _) (World.shaped_of_ZipB (by kernel_rfl) (by kernel_rfl)) (by kernel_rfl) (by kernel_rfl) (by kernel_rfl) (door_met os _)) ?_
  intro W base args ds gs before hval0 hW _ _ hL _
  have hval : ∀ (j : Nat) t v, Tryd.f4.params[j]? = some t → args[j]? = some v → Value.okWide Tryd.prog W .any base t v := hval0
  have hW' := hW
  obtain ⟨p, q, hA0, hV, rfl, hfz, hnd⟩ := hW
  have hA : DataW.TrodAll enc Tryd.prog W 0 (fun _ => true) true Tryd.f4.params.toList args.toList ds p := hA0
  rw [Tryd.params4] at hA hval
  have hA1 := hA
  obtain ⟨v0, vs0, d0, ds0, p0, q0, hargs, rfl, rfl, h0, r0⟩ := trodAll_cons hA
  obtain ⟨v1, vs1, d1, ds1, p1, q1, rfl, rfl, rfl, h1, r1⟩ := trodAll_cons r0
  obtain ⟨rfl, rfl, rfl⟩ := trodAll_nil r1
  obtain rfl : args = #[v0, v1] := by cases args; simp_all
  obtain ⟨rfl, rfl⟩ := trodVars_none hV
  obtain ⟨z0, rfl, l0, wf0⟩ := open_agg_i64 Tryd.underlying23 (by kernel_rfl) (hval 0 23 v0 rfl rfl) h0
  obtain ⟨a1, rfl, rfl, rfl, w1⟩ := open_string Tryd.underlying9 (hval 1 9 v1 rfl rfl) h1
  clear hA0 hval0
  simp only [List.append_nil] at hW' hA1
  refine (walk W (tabs_of hL) z0 l0 wf0 a1 w1).mono fun e W' ⟨he, hb⟩ => ?_
  subst he
  exact ⟨_, rfl, ⟨_, _, _, [], _, [], hW', trodAll_mk1 (shut_bool Tryd.underlying4 _), below_args laidOut hb (by kernel_rfl) hA1 (fun x hx => by simpa using hW'.lt x hx), rfl, hb.frame _, fun h => by cases h⟩⟩

theorem said : Rows.KeysTextsSaid :=
  OpenClaim.holds_of_wide 4 Tryd.f4 rfl rfl rfl rfl rfl rfl rfl ⟨rfl, rfl, rfl, rfl, rfl⟩ rfl rfl rfl rfl rfl (by kernel_rfl) Tryd.func4 (by kernel_rfl)
    (of_decide_eq_true (by kernel_rfl)) (by unfold Func.isWrapper; first | (rw [if_pos (by decide +kernel)]; kernel_rfl) | (rw [if_neg (by decide +kernel)]; exact ⟨rfl, rfl⟩))
    (fun os started H enc _ => lifted os started H enc)

theorem proved : Rows.KeysTextsCardSaid :=
  Claim7.holds_tied_plain_at .later [] [.data, .data, .data, .data, .sentinel, .sentinel, .pinned] true Rows.keysTextsCard.stood.harness true
    said (fun _ h => by cases h) (by kernel_rfl) (fun _ h => by cases h) keysTexts_row_tie rfl ⟨rfl, rfl⟩ (by kernel_rfl) rfl
    (fun f fn hf hfn => by
      obtain rfl : f = 4 := Option.some.inj ((show Tryd.prog.funcNamed "warrener/warrenerlaw32.KeysTexts" = some 4 by kernel_rfl).symm.trans hf) |>.symm
      obtain rfl : fn = Tryd.f4 := (Option.some.inj (Tryd.func4.symm.trans hfn)).symm
      exact ⟨by kernel_rfl, fun j t ht => by
        have hm : t ∈ Tryd.f4.params := Array.mem_of_getElem? ht
        have hall : (Tryd.f4.params.all fun u => !Tryd.prog.wantsStandIn u) = true := by kernel_rfl
        have := Array.all_eq_true_iff_forall_mem.1 hall t hm
        exact (show Tryd.prog.wantsStandIn t = false by simpa using this)⟩)
    (by kernel_rfl)
end
end Go.Proofs.YtnggbfdnlmkklaaDoor.keysTexts
