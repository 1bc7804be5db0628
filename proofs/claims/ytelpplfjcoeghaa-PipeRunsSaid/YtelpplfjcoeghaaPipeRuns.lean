/-
  PipeRuns answers true, whatever the room and the calls are: a pipe answers as a list would. Condition: none.
-/
import Derived.Test.YtelpplfjcoeghaaPipe5
import Derived.Test.YtelpplfjcoeghaaOpen
set_option linter.unusedVariables false
namespace Go.Proofs.Ytelpplfjcoeghaa.pipeRuns
open Go.RowKit Go.Conc Go.Proofs.Ytelpplfjcoeghaa.Chan Go.Proofs.Ytelpplfjcoeghaa.Own Go.Proofs.Ytelpplfjcoeghaa.Pipe

set_option maxHeartbeats 2000000 in
theorem walk (w : World) (t : Int) (wf0 : (Lit.int .i64 t).wf = true) (lv : Value) (ln : Nat) (zs : List Int) (hr : Rd w 2 lv ln (vals zs)) (wf1 : ∀ z ∈ zs, (Lit.int .i64 z).wf = true) :
    Calls Try.prog 3 #[.int .i64 t, lv] w fun e w' => e = .returned (.bool true) ∧ Below w.heap.size w w' := by
  obtain ⟨cap, hcap, hcapB⟩ : ∃ cap : Nat, near t 0 256 = cap ∧ cap ≤ 256 := by
    have := near_bd t 0 256 (by omega)
    exact ⟨(near t 0 256).toNat, by omega, by omega⟩
  have Hcap := Lib.hid hcap
  clear hcap
  obtain ⟨hzl, ao, lc, rfl, hca, hma, hnone, hR⟩ := hr
  unfold maxLen at hma
  rw [vals_len] at hzl
  have HR := Lib.hid hR
  clear hR hnone
  go_enter Try.func3, Try.ntmps3
  go_wp2_with fail
  refine (alive_is _).mono ?_
  rintro e w1 ⟨rfl, k1⟩
  go_wp2_with fail
  refine (new_is t cap _ Hcap.out).mono ?_
  rintro e w2 ⟨b, c, rfl, p2, hc, hb, k2⟩
  have hB : w.heap.size ≤ w2.heap.size := Nat.le_trans k1.size k2.size
  have hcB : w.heap.size ≤ c := Nat.le_trans k1.size hc
  have hbB : w.heap.size ≤ b := Nat.le_trans k1.size hb
  have K2 : Kept No w w2 := k1.trans k2 (fun _ _ f => f)
  clear k1 k2 hc hb
  go_wp2_with fail
  refine (near_is t 0 256 cap _ Hcap.out).mono ?_
  rintro e w' ⟨rfl, rfl⟩
  have hi0 : Inv w' w.heap.size b c cap [] (.slice none 0 0) := ⟨p2, Seg.nil _ _ _ _, (fun g hg => by simp [Value.ownBlock] at hg), by simp⟩
  clear p2
  go_wp2_with fail
  go_loopw [7, 6] (fun i v wr => ∃ k : Nat, ∃ xs : List Int, k ≤ ln ∧ k ≤ 80 ∧ i = .int .i64 k ∧ Inv wr w.heap.size b c cap xs v ∧ Kept No w wr) (fun i v wr => 80 - (intOf i).toNat)
  case atStart => exact ⟨0, [], by omega, by omega, rfl, hi0, K2⟩
  case round =>
    obtain ⟨k, xs, hk, hk80, rfl, hi, hK⟩ := hrel
    by_cases hlt : k < ln ∧ k < 80
    · obtain ⟨hkl, hkl80⟩ := hlt
      obtain ⟨g, o, hao, hgl, hcells⟩ := HR.out (by omega)
      have hc0 : wr.cell? ⟨g, o + k * 2, none⟩ = some (.int .i64 (zs[2 * k]'(by omega))) := by
        rw [hK.cell (p := ⟨g, o + k * 2, none⟩) hgl id, Nat.mul_comm]
        exact hcells (2 * k) _ (by simp [vals])
      have hc1 : wr.cell? ⟨g, o + k * 2 + 1, none⟩ = some (.int .i64 (zs[2 * k + 1]'(by omega))) := by
        rw [hK.cell (p := ⟨g, o + k * 2 + 1, none⟩) hgl id, Nat.mul_comm, Nat.add_assoc]
        exact hcells (2 * k + 1) _ (by simp [vals])
      generalize zs[2 * k]'(by omega) = kind at hc0
      generalize zs[2 * k + 1]'(by omega) = n at hc1
      have hsz := hK.size
      clear hcells
      subst hao
      go_wp2_with fail
      refine (run_is w.heap.size b c cap _ xs kind n _ hsz hi hcapB).mono ?_
      rintro e w3 ⟨v3, rfl, hi3, hk3, ho3⟩
      have hK3 : Kept No w w3 := hK.trans hk3 (fun j hj h => by
        rcases h with h | h
        · omega
        · have := (hi.seg.lt j h).1; omega)
      clear hk3 hi hK
      go_wp2_with fail
      refine (told_inv w.heap.size b c cap _ v3 _ hi3 hcapB).mono ?_
      rintro e w4 ⟨rfl, hi4, hk4⟩
      have hK4 : Kept No w w4 := hK3.trans hk4 (fun j hj h => by simp [Only] at h; omega)
      go_wp2_with fail
      go_roundw
      case rel => exact ⟨k + 1, _, by omega, by omega, by go_num, hi4, hK4⟩
      case measure => simp [intOf]; omega
    · go_wp2_with fail
      all_goals
        refine (told_inv w.heap.size b c cap _ _ _ hi hcapB).mono ?_
        rintro e w4 ⟨rfl, hi4, hk4⟩
        have hK4 : Kept No w w4 := hK.trans hk4 (fun j hj h => by simp [Only] at h; omega)
        go_wp2_with fail
        go_ret
        exact ⟨rfl, hK4.below (Nat.le_refl _) (fun _ _ => id)⟩

section
open Go.ChangeShapes Go.WideShapes Go.ChangeAt Go.RowKit Go.Proofs.Ytelpplfjcoeghaa.Own Go.Proofs.Ytelpplfjcoeghaa.Open

theorem own : ownKnob Try.prog.godebug = none := by kernel_rfl
theorem laidOut : laidOutB Try.prog = true := by kernel_rfl

set_option maxRecDepth 100000 in
theorem lifted (os : Os) (started : os.Started) (H : Type) (enc : TypeId × Value → H) :
    ReturnsInHanded {} Try.checked os 3 .any (Rows.pipeRunsSpec.pre6 enc Try.prog Try.f3 Rows.pipeRunsRow.domain false) (Rows.pipeRunsSpec.post enc Try.prog Try.f3 false true false false) := by
  refine returnsInHanded_of_change (C := Try.checked) own started (by kernel_rfl) Try.func3
    (ChangeSpec.witness6 (enc := enc) (C := Try.checked) false ⟨#[], #[.int .i64 0, .slice none 0 0], []⟩ 8 (by kernel_rfl) (by kernel_rfl) (by kernel_rfl) (by kernel_rfl)) ?_
  intro W base args ds gs before hval0 hW hcnd _
  have hval : ∀ (j : Nat) t v, Try.f3.params[j]? = some t → args[j]? = some v → Value.okWide Try.prog W .any base t v := hval0
  have hW' := hW
  obtain ⟨p, q, hA0, hV, rfl, hfz, hnd⟩ := hW
  have hA : DataW.TrodAll enc Try.prog W 0 (fun _ => true) true Try.f3.params.toList args.toList ds p := hA0
  rw [Try.params3] at hA hval
  have hA1 := hA
  obtain ⟨v0, vs0, d0, ds0, p0, q0, hargs, rfl, rfl, h0, r0⟩ := trodAll_cons hA
  obtain ⟨v1, vs1, d1, ds1, p1, q1, rfl, rfl, rfl, h1, r1⟩ := trodAll_cons r0
  obtain ⟨rfl, rfl, rfl⟩ := trodAll_nil r1
  obtain rfl : args = #[v0, v1] := by cases args; simp_all
  obtain ⟨rfl, rfl⟩ := trodVars_none hV
  obtain ⟨a0, rfl, rfl, rfl, w0⟩ := open_int Try.underlying3 (hval 0 3 v0 rfl rfl) h0
  obtain ⟨n1, z1, rd1, wf1⟩ := open_i64s 2 Try.underlying22 (by kernel_rfl) (by decide) (by kernel_rfl) (hval 1 22 v1 rfl rfl) h1
  clear hA0 hval0
  simp only [List.append_nil] at hW' hA1
  refine (walk W a0 w0 v1 n1 z1 rd1 wf1).mono fun e W' ⟨he, hb⟩ => ?_
  subst he
  exact ⟨_, rfl, ⟨_, _, _, [], _, [], hW', trodAll_mk1 (shut_bool Try.underlying4 _), below_args laidOut hb (by kernel_rfl) hA1 (fun x hx => by simpa using hW'.lt x hx), rfl, hb.frame _, fun h => by cases h⟩⟩

theorem over : Rows.pipeRunsRow.holds Try.pinned (OpenSpec.ofChange Rows.pipeRunsSpec) :=
  OpenClaim.holds_of_wide 3 Try.f3 rfl rfl rfl rfl rfl rfl rfl ⟨rfl, rfl, rfl, rfl, rfl⟩ rfl rfl rfl rfl rfl (by kernel_rfl) Try.func3 (by kernel_rfl)
    (of_decide_eq_true (by kernel_rfl)) (by unfold Func.isWrapper; first | (rw [if_pos (by decide +kernel)]; kernel_rfl) | (rw [if_neg (by decide +kernel)]; exact ⟨rfl, rfl⟩))
    (fun os started H enc _ => lifted os started H enc)

theorem proved : Rows.PipeRunsSaid :=
  over
end
end Go.Proofs.Ytelpplfjcoeghaa.pipeRuns
