/-
  MeterNobody answers true, whatever the number is: nil, a meter that New did not make, and a meter of no tokens have nothing. Condition: none.
-/
import Derived.Test.YtehmlaielnhcmaaMeter
import Derived.LoopTactic
namespace Go.Proofs.Ytehmlaielnhcmaa.meterNobody
open Go.ChangeShapes Go.WideShapes Go.ChangeAt Go.RowKit Go.Conc Go.Proofs.Ytehmlaielnhcmaa.Chan Go.Proofs.Ytehmlaielnhcmaa.Meter

theorem own : ownKnob Try.prog.godebug = none := by kernel_rfl

set_option maxHeartbeats 1000000 in
theorem walk (t : Int) (_ : (Lit.int .i64 t).wf = true) (w : World) :
    Calls Try.prog 4 #[.int .i64 t] w fun e w' => e = .returned (.bool true) ∧ Below w.heap.size w w' := by
  have hn0 := near_bd t (-5) 0 (by omega)
  have Hn := Lib.hid (show near (near t (-5) 0) 0 1048576 = ((0 : Nat) : Int) by
    generalize near t (-5) 0 = x at *
    unfold near; split
    · rfl
    · split <;> omega)
  clear hn0
  go_enter Try.func4, Try.ntmps4
  go_wp2_with fail
  refine (alive_is _).mono ?_
  rintro e w1 ⟨rfl, b1⟩
  go_wp2_with fail
  refine (near_any t (-5) 0 _).mono ?_
  rintro e w' ⟨rfl, rfl⟩
  go_wp2_with fail
  refine (new_is _ 0 _ Hn.out).mono ?_
  rintro e w2 ⟨b, c, rfl, m2, hc, hb, b2⟩
  have hodd : w2.cell? ⟨w1.heap.size, 0, .none⟩ = some (.chan none) := by
    rw [b2.cell (by simp)]; simp
  have b3 : Below w.heap.size w w2 := b1.trans ((Below.alloc (Below.refl _ _) b1.size _).trans (b2.mono (by have := b1.size; simp; omega)))
  have hB : w.heap.size ≤ c := by have := b1.size; simp at hc; omega
  clear b1 b2 hc hb
  go_wp2_with fail
  refine (spend_nil _).mono ?_
  rintro e w' ⟨rfl, rfl⟩
  go_wp2_with fail
  refine (spend_odd _ _ hodd).mono ?_
  rintro e w' ⟨rfl, rfl⟩
  go_wp2_with fail
  refine (left_nil _).mono ?_
  rintro e w' ⟨rfl, rfl⟩
  go_wp2_with fail
  refine (left_odd _ _ hodd).mono ?_
  rintro e w' ⟨rfl, rfl⟩
  go_wp2_with fail
  refine (spent_nil _).mono ?_
  rintro e w' ⟨rfl, rfl⟩
  go_wp2_with fail
  refine (spent_odd _ _ hodd).mono ?_
  rintro e w' ⟨rfl, rfl⟩
  go_wp2_with fail
  refine (spend_full _ _ _ _ m2).mono ?_
  rintro e w' ⟨rfl, rfl⟩
  go_wp2_with fail
  refine (left_is (B := w.heap.size) _ _ _ _ _ m2 (by omega) (by omega)).mono ?_
  rintro e w4 ⟨rfl, m4, b4⟩
  go_wp2_with fail
  go_ret
  exact ⟨rfl, b3.trans b4⟩

set_option maxRecDepth 100000 in
theorem lifted (os : Os) (started : os.Started) (H : Type) (enc : TypeId × Value → H) :
    ReturnsInHanded {} Try.checked os 4 .any (Rows.meterNobodySpec.pre6 enc Try.prog Try.f4 Rows.meterNobodyRow.domain false) (Rows.meterNobodySpec.post enc Try.prog Try.f4 false true false false) := by
  refine returnsInHanded_of_change (C := Try.checked) own started (by kernel_rfl) Try.func4
    (ChangeSpec.witness6 (enc := enc) (C := Try.checked) false ⟨#[], #[.int .i64 0], []⟩ 8 (by kernel_rfl) (by kernel_rfl) (by kernel_rfl) (by kernel_rfl)) ?_
  intro W base args ds gs before hval0 hW hcnd _
  have hval : ∀ (j : Nat) t v, Try.f4.params[j]? = some t → args[j]? = some v → Value.okWide Try.prog W .any base t v := hval0
  have hW' := hW
  obtain ⟨p, q, hA0, hV, rfl, hfz, hnd⟩ := hW
  have hA : DataW.TrodAll enc Try.prog W 0 (fun _ => true) true Try.f4.params.toList args.toList ds p := hA0
  rw [Try.params4] at hA hval
  obtain ⟨v0, vs0, d0, ds0, p0, q0, hargs, rfl, rfl, h0, r0⟩ := trodAll_cons hA
  obtain ⟨rfl, rfl, rfl⟩ := trodAll_nil r0
  obtain rfl : args = #[v0] := by cases args; simp_all
  obtain ⟨rfl, rfl⟩ := trodVars_none hV
  obtain ⟨a0, rfl, rfl, rfl, w0⟩ := open_int Try.underlying3 (hval 0 3 v0 rfl rfl) h0
  clear hA0 hval0
  simp only [List.append_nil] at hW'
  refine (walk a0 w0 W).mono fun e W' ⟨he, hb⟩ => ?_
  subst he
  exact ⟨_, rfl, ⟨_, _, _, [], _, [], hW', trodAll_mk1 (shut_bool Try.underlying4 _), (trodAll_cons_mk (shut_int Try.underlying3 w0) trodAll_mk0), rfl, hb.frame _, fun h => by cases h⟩⟩

theorem over : Rows.meterNobodyRow.holds Try.pinned (OpenSpec.ofChange Rows.meterNobodySpec) :=
  OpenClaim.holds_of_wide 4 Try.f4 rfl rfl rfl rfl rfl rfl rfl ⟨rfl, rfl, rfl, rfl, rfl⟩ rfl rfl rfl rfl rfl (by kernel_rfl) Try.func4 (by kernel_rfl)
    (of_decide_eq_true (by kernel_rfl)) (by unfold Func.isWrapper; first | (rw [if_pos (by decide +kernel)]; kernel_rfl) | (rw [if_neg (by decide +kernel)]; exact ⟨rfl, rfl⟩))
    (fun os started H enc _ => lifted os started H enc)

theorem proved : Rows.MeterNobodySaid :=
  over
end Go.Proofs.Ytehmlaielnhcmaa.meterNobody
