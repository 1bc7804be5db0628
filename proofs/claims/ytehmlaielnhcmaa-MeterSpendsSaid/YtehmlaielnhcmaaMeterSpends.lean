/-
  MeterSpends answers true, whatever the two numbers are: of the tokens just as many can be spent, and what is left and what was spent are together the tokens. Condition: none.
-/
import Derived.Test.YtehmlaielnhcmaaMeter
import Derived.LoopTactic
namespace Go.Proofs.Ytehmlaielnhcmaa.meterSpends
open Go.ChangeShapes Go.WideShapes Go.ChangeAt Go.RowKit Go.Conc Go.Proofs.Ytehmlaielnhcmaa.Chan Go.Proofs.Ytehmlaielnhcmaa.Meter

theorem own : ownKnob Try.prog.godebug = none := by kernel_rfl

theorem nearN (k cap : Nat) : near (k : Int) 0 cap = ((min k cap : Nat) : Int) := by
  unfold near; split
  · omega
  · split <;> omega

set_option maxHeartbeats 1000000 in
theorem walk (t : Int) (_ : (Lit.int .i64 t).wf = true) (n : Int) (_ : (Lit.int .i64 n).wf = true) (w : World) :
    Calls Try.prog 3 #[.int .i64 t, .int .i64 n] w fun e w' => e = .returned (.bool true) ∧ Below w.heap.size w w' := by
  obtain ⟨cap, hcap, hcapB⟩ : ∃ cap : Nat, near t 0 1048576 = cap ∧ cap ≤ 1048576 := by
    have := near_bd t 0 1048576 (by omega)
    exact ⟨(near t 0 1048576).toNat, by omega, by omega⟩
  obtain ⟨N, hN, hNB⟩ : ∃ N : Nat, near n 0 3000 = N ∧ N ≤ 3000 := by
    have := near_bd n 0 3000 (by omega)
    exact ⟨(near n 0 3000).toNat, by omega, by omega⟩
  have Hcap := Lib.hid hcap
  have HN := Lib.hid hN
  clear hcap hN
  go_enter Try.func3, Try.ntmps3
  go_wp2_with fail
  refine (alive_is _).mono ?_
  rintro e w1 ⟨rfl, b1⟩
  go_wp2_with fail
  refine (new_is t cap _ Hcap.out).mono ?_
  rintro e w2 ⟨b, c, rfl, m2, hc, hb, b2⟩
  have hB : w.heap.size ≤ c := Nat.le_trans b1.size hc
  have b3 : Below w.heap.size w w2 := b1.trans (b2.mono b1.size)
  clear b1 b2 hc hb
  go_wp2_with fail
  refine (near_is t 0 1048576 cap _ Hcap.out).mono ?_
  rintro e w' ⟨rfl, rfl⟩
  go_wp2_with fail
  refine (near_is n 0 3000 N _ HN.out).mono ?_
  rintro e w' ⟨rfl, rfl⟩
  go_wp2_with fail
  go_loopw [7] (fun i wr => ∃ k : Nat, k ≤ N ∧ i = .int .i64 k ∧ Mt wr b c cap (min k cap) ∧ Below w.heap.size w wr) (fun i wr => N - (intOf i).toNat)
  case atStart => exact ⟨0, by omega, rfl, by simpa using m2, b3⟩
  case round =>
    obtain ⟨k, hk, rfl, m, bb⟩ := hrel
    have hkm : min k cap ≤ cap := by omega
    by_cases hlt : k < N
    · by_cases hs : k < cap
      · have e1 : min k cap = k := by omega
        have e2 : min (k + 1) cap = k + 1 := by omega
        rw [e1] at m
        have hn := Lib.hid (nearN k cap)
        have H1 := Lib.hid e1
        have H2 := Lib.hid e2
        clear e1 e2
        go_wp2_with fail
        refine (left_is (B := w.heap.size) b c cap k _ m (by omega) (by omega)).mono ?_
        rintro e w4 ⟨rfl, m4, b4⟩
        go_wp2_with fail
        refine (near_is _ _ _ k _ (by rw [hn.out, H1.out])).mono ?_
        rintro e w' ⟨rfl, rfl⟩
        go_wp2_with fail
        refine (spent_some b c cap k _ m4).mono ?_
        rintro e w' ⟨rfl, rfl⟩
        go_wp2_with fail
        refine (near_is _ _ _ k _ (by rw [hn.out, H1.out])).mono ?_
        rintro e w' ⟨rfl, rfl⟩
        go_wp2_with fail
        refine (spend_yes (B := w.heap.size) b c cap k _ m4 hs hB).mono ?_
        rintro e w5 ⟨rfl, m5, b5⟩
        go_wp2_with fail
        go_roundw
        case rel => exact ⟨k + 1, by omega, by go_num, by rw [H2.out]; exact m5, (bb.trans b4).trans b5⟩
        case measure => simp [intOf]; omega
      · have e1 : min k cap = cap := by omega
        have e2 : min (k + 1) cap = cap := by omega
        rw [e1] at m
        have hn := Lib.hid (nearN k cap)
        have H1 := Lib.hid e1
        have H2 := Lib.hid e2
        clear e1 e2
        go_wp2_with fail
        refine (left_is (B := w.heap.size) b c cap cap _ m (by omega) (by omega)).mono ?_
        rintro e w4 ⟨rfl, m4, b4⟩
        go_wp2_with fail
        refine (near_is _ _ _ cap _ (by rw [hn.out, H1.out])).mono ?_
        rintro e w' ⟨rfl, rfl⟩
        go_wp2_with fail
        refine (spent_some b c cap cap _ m4).mono ?_
        rintro e w' ⟨rfl, rfl⟩
        go_wp2_with fail
        refine (near_is _ _ _ cap _ (by rw [hn.out, H1.out])).mono ?_
        rintro e w' ⟨rfl, rfl⟩
        go_wp2_with fail
        refine (spend_full b c cap _ m4).mono ?_
        rintro e w5 ⟨rfl, rfl⟩
        go_wp2_with fail
        go_roundw
        case rel => exact ⟨k + 1, by omega, by go_num, by rw [H2.out]; exact m4, bb.trans b4⟩
        case measure => simp [intOf]; omega
    · go_wp2_with fail
      refine (left_is (B := w.heap.size) b c cap (min k cap) _ m (by omega) (by omega)).mono ?_
      rintro e w4 ⟨rfl, m4, b4⟩
      go_wp2_with fail
      refine (spent_some b c cap (min k cap) _ m4).mono ?_
      rintro e w' ⟨rfl, rfl⟩
      go_wp2_with fail
      go_ret
      exact ⟨by simp, bb.trans b4⟩

set_option maxRecDepth 100000 in
theorem lifted (os : Os) (started : os.Started) (H : Type) (enc : TypeId × Value → H) :
    ReturnsInHanded {} Try.checked os 3 .any (Rows.meterSpendsSpec.pre6 enc Try.prog Try.f3 Rows.meterSpendsRow.domain false) (Rows.meterSpendsSpec.post enc Try.prog Try.f3 false true false false) := by
  refine returnsInHanded_of_change (C := Try.checked) own started (by kernel_rfl) Try.func3
    (ChangeSpec.witness6 (enc := enc) (C := Try.checked) false ⟨#[], #[.int .i64 0, .int .i64 0], []⟩ 8 (by kernel_rfl) (by kernel_rfl) (by kernel_rfl) (by kernel_rfl)) ?_
  intro W base args ds gs before hval0 hW hcnd _
  have hval : ∀ (j : Nat) t v, Try.f3.params[j]? = some t → args[j]? = some v → Value.okWide Try.prog W .any base t v := hval0
  have hW' := hW
  obtain ⟨p, q, hA0, hV, rfl, hfz, hnd⟩ := hW
  have hA : DataW.TrodAll enc Try.prog W 0 (fun _ => true) true Try.f3.params.toList args.toList ds p := hA0
  rw [Try.params3] at hA hval
  obtain ⟨v0, vs0, d0, ds0, p0, q0, hargs, rfl, rfl, h0, r0⟩ := trodAll_cons hA
  obtain ⟨v1, vs1, d1, ds1, p1, q1, rfl, rfl, rfl, h1, r1⟩ := trodAll_cons r0
  obtain ⟨rfl, rfl, rfl⟩ := trodAll_nil r1
  obtain rfl : args = #[v0, v1] := by cases args; simp_all
  obtain ⟨rfl, rfl⟩ := trodVars_none hV
  obtain ⟨a0, rfl, rfl, rfl, w0⟩ := open_int Try.underlying3 (hval 0 3 v0 rfl rfl) h0
  obtain ⟨a1, rfl, rfl, rfl, w1⟩ := open_int Try.underlying3 (hval 1 3 v1 rfl rfl) h1
  clear hA0 hval0
  simp only [List.append_nil] at hW'
  refine (walk a0 w0 a1 w1 W).mono fun e W' ⟨he, hb⟩ => ?_
  subst he
  exact ⟨_, rfl, ⟨_, _, _, [], _, [], hW', trodAll_mk1 (shut_bool Try.underlying4 _), (trodAll_cons_mk (shut_int Try.underlying3 w0) (trodAll_cons_mk (shut_int Try.underlying3 w1) trodAll_mk0)), rfl, hb.frame _, fun h => by cases h⟩⟩

theorem over : Rows.meterSpendsRow.holds Try.pinned (OpenSpec.ofChange Rows.meterSpendsSpec) :=
  OpenClaim.holds_of_wide 3 Try.f3 rfl rfl rfl rfl rfl rfl rfl ⟨rfl, rfl, rfl, rfl, rfl⟩ rfl rfl rfl rfl rfl (by kernel_rfl) Try.func3 (by kernel_rfl)
    (of_decide_eq_true (by kernel_rfl)) (by unfold Func.isWrapper; first | (rw [if_pos (by decide +kernel)]; kernel_rfl) | (rw [if_neg (by decide +kernel)]; exact ⟨rfl, rfl⟩))
    (fun os started H enc _ => lifted os started H enc)

theorem proved : Rows.MeterSpendsSaid :=
  over
end Go.Proofs.Ytehmlaielnhcmaa.meterSpends
