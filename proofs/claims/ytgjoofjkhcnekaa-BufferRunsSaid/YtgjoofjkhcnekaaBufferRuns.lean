/-
  BufferRuns answers true, whatever the room, the calls and the life are: a buffer answers as a list would, and the last store of any place is seen. Condition: none.
-/
import Derived.Test.YtgjoofjkhcnekaaBuf10
import Derived.Deep.RegionHeld3
import Derived.Test.YtgjoofjkhcnekaaOpen
set_option linter.unusedVariables false
namespace Go.Proofs.Ytgjoofjkhcnekaa.bufferRuns
open Go.RowKit Go.Conc Go.Proofs.Ytgjoofjkhcnekaa.Chan Go.Proofs.Ytgjoofjkhcnekaa.Own Go.Proofs.Ytgjoofjkhcnekaa.Buf

set_option maxHeartbeats 4000000 in
set_option maxRecDepth 100000 in
theorem walk (w : World) (t : Int) (wf0 : (Lit.int .i64 t).wf = true) (lv : Value) (ln : Nat) (zs : List Int) (hr : Rd w 9 lv ln (vals zs)) (wf1 : ∀ z ∈ zs, (Lit.int .i64 z).wf = true) (gen : Int) (wf2 : (Lit.int .i64 gen).wf = true) :
    Calls Try.prog 3 #[.int .i64 t, lv, .int .i64 gen] w fun e w' => e = .returned (.bool true) ∧ Below w.heap.size w w' := by
  obtain ⟨cap, hcap, hcapB⟩ : ∃ cap : Nat, near t 0 4 = cap ∧ cap ≤ 4 := by
    have := near_bd t 0 4 (by omega)
    exact ⟨(near t 0 4).toNat, by omega, by omega⟩
  have Hcap := Lib.hid hcap
  clear hcap
  have hm1 : ln ≤ 9223372036854775807 := by obtain ⟨_, _, _, _, h1, h2, _⟩ := hr; unfold maxLen at h2; omega
  obtain ⟨ao, lc, rfl⟩ : ∃ a c, lv = .slice a ln c := by obtain ⟨_, a, c, h, _⟩ := hr; exact ⟨a, c, h⟩
  have R1 := Lib.hid hr
  clear hr
  go_enter Try.func3, Try.ntmps3
  go_wp2_with fail
  refine (alive_is _).mono ?_
  rintro e w1 ⟨rfl, k1⟩
  go_wp2_with fail
  refine (new_is t cap _ Hcap.out).mono ?_
  rintro e w2 ⟨b, c, rfl, p2, hc, hb, k2⟩
  have hB : w.heap.size ≤ w2.heap.size := Nat.le_trans k1.size k2.size
  have hcB : w.heap.size ≤ c := Nat.le_trans k1.size hc
  have hbB : w.heap.size ≤ b := Nat.le_trans k1.size hb
  have K2 : Kept No w w2 := k1.trans k2 (fun _ _ f => f)
  have hT : ∀ k, k < w.heap.size → Only c k → No k := fun k hk h => by simp only [Only] at h; omega
  have HT := Lib.hid hT
  clear k1 k2 hc hb hT
  go_wp2_with fail
  refine (near_is t 0 4 cap _ Hcap.out).mono ?_
  rintro e w' ⟨rfl, rfl⟩
  have hi0 : Buf.Inv w' w.heap.size b c cap [] (.slice none 0 0) := ⟨p2, Seg.nil _ _ _ _, (fun g hg => by simp [Value.ownBlock] at hg), by simp⟩
  clear p2
  go_wp2_with fail
  go_loopw [9, 8] (fun i v wr => ∃ k : Nat, ∃ xs : List Ent, k ≤ ln ∧ k ≤ 60 ∧ i = .int .i64 k ∧ Buf.Inv wr w.heap.size b c cap xs v ∧ Kept No w wr) (fun i v wr => 60 - (intOf i).toNat)
  case atStart => exact ⟨0, [], by omega, by omega, rfl, hi0, K2⟩
  case round =>
    obtain ⟨k, xs, hk, hk60, rfl, hi, hK⟩ := hrel
    by_cases hlt : k < ln ∧ k < 60
    · obtain ⟨hkl, hkl60⟩ := hlt
      obtain ⟨g, o, kind, n0, n1, n2, n3, n4, n5, n6, n7, hao, c0, c1, c2, c3, c4, c5, c6, c7, c8⟩ := cells_at R1.out hK k hkl
      have hsz := hK.size
      subst hao
      go_wp2_with fail
      refine (run_is w.heap.size b c cap _ xs kind ⟨n0, n1, n2, n3, n4, n5, n6, n7⟩ _ hsz hi hcapB).mono ?_
      rintro e w3 ⟨v3, rfl, hi3, hk3, ho3⟩
      have hK3 : Kept No w w3 := hK.trans hk3 (fun j hj h => by
        rcases h with h | h
        · omega
        · have := (hi.seg.lt j h).1; omega)
      clear hk3 hi hK c0 c1 c2 c3 c4 c5 c6 c7 c8
      go_wp2_with fail
      obtain ⟨ys, hi3⟩ : ∃ ys, Buf.Inv w3 w.heap.size b c cap ys v3 := ⟨_, hi3⟩
      have hg : g < w.heap.size := rd_lt R1.out (by omega)
      obtain ⟨g4, o4, kind4, y0, y1, y2, y3, y4, y5, y6, y7, hao4, d0, d1, d2, d3, d4, d5, d6, d7, d8⟩ := cells_at R1.out hK3 0 (by omega)
      obtain ⟨g', o', kind', m0, m1, m2, m3, m4, m5, m6, m7, hao, c0, c1, c2, c3, c4, c5, c6, c7, c8⟩ := cells_at R1.out hK3 k hkl
      cases hao
      cases hao4
      simp only [Nat.zero_mul, Nat.add_zero] at d1 d2 d3
      have HK := Lib.hid hK3
      have hl0 : (0 : Int) < (ln : Int) := by omega
      have hl1 : 0 < ln := by omega
      have c7' : w3.cell? ⟨g, o + k * 9 + 1 + 6, none⟩ = some (.int .i64 m6) := c7
      have Hs := Lib.hid (And.intro c1 (And.intro c2 (And.intro c3 (And.intro d1 (And.intro d2 (And.intro d3 c7'))))))
      clear c7'
      clear c0 c1 c2 c3 c4 c5 c6 c7 c8 d0 d1 d2 d3 d4 d5 d6 d7 d8
      go_region_held3 (fun w' => Buf.Inv w' w.heap.size b c cap ys v3 ∧ Kept No w w' ∧ w'.cell? ⟨g, o + k * 9 + 1, none⟩ = some (.int .i64 m0) ∧ w'.cell? ⟨g, o + k * 9 + 2, none⟩ = some (.int .i64 m1) ∧ w'.cell? ⟨g, o + k * 9 + 3, none⟩ = some (.int .i64 m2) ∧ w'.cell? ⟨g, o + 1, none⟩ = some (.int .i64 y0) ∧ w'.cell? ⟨g, o + 2, none⟩ = some (.int .i64 y1) ∧ w'.cell? ⟨g, o + 3, none⟩ = some (.int .i64 y2) ∧ w'.cell? ⟨g, o + k * 9 + 1 + 6, none⟩ = some (.int .i64 m6))
        ((first
          | exact ⟨hi3.drew, hK3.drew, Hs.out⟩
          | exact ⟨by assumption, by assumption, cell_kept hg HK.out (by assumption) Hs.out.1, cell_kept hg HK.out (by assumption) Hs.out.2.1, cell_kept hg HK.out (by assumption) Hs.out.2.2.1, cell_kept hg HK.out (by assumption) Hs.out.2.2.2.1, cell_kept hg HK.out (by assumption) Hs.out.2.2.2.2.1, cell_kept hg HK.out (by assumption) Hs.out.2.2.2.2.2.1, cell_kept hg HK.out (by assumption) Hs.out.2.2.2.2.2.2⟩))
        (first
          | (go_at_call 10; go_split_ands; refine (told_inv w.heap.size b c cap ys v3 _ _ _ _ _ (by assumption) hcapB).mono ?_; rintro e w4 ⟨rfl, hi4, hk4⟩; have hK4 := Kept.trans (by assumption) hk4 HT.out))
      go_split_ands
      go_wp2_with fail
      go_roundw
      case rel => exact ⟨k + 1, _, by omega, by omega, by go_num, by assumption, by assumption⟩
      case measure => simp [intOf]; omega
    · go_wp2_with fail
      all_goals
        refine (told_inv w.heap.size b c cap _ _ _ _ _ _ _ hi hcapB).mono ?_
        rintro e w4 ⟨rfl, hi4, hk4⟩
        have hK4 : Kept No w w4 := hK.trans hk4 HT.out
        go_wp2_with fail
        go_ret
        exact ⟨rfl, hK4.below (Nat.le_refl _) (fun _ _ => id)⟩

section
open Go.ChangeShapes Go.WideShapes Go.ChangeAt Go.RowKit Go.Proofs.Ytgjoofjkhcnekaa.Own Go.Proofs.Ytgjoofjkhcnekaa.Open

theorem own : ownKnob Try.prog.godebug = none := by kernel_rfl
theorem laidOut : laidOutB Try.prog = true := by kernel_rfl

set_option maxRecDepth 100000 in
theorem lifted (os : Os) (started : os.Started) (H : Type) (enc : TypeId × Value → H) :
    ReturnsInHanded {} Try.checked os 3 .any (Rows.bufferRunsSpec.pre6 enc Try.prog Try.f3 Rows.bufferRunsRow.domain false) (Rows.bufferRunsSpec.post enc Try.prog Try.f3 false true false false) := by
  refine returnsInHanded_of_change (C := Try.checked) own started (by kernel_rfl) Try.func3
    (ChangeSpec.witness6 (enc := enc) (C := Try.checked) false ⟨#[], #[.int .i64 0, .slice none 0 0, .int .i64 0], []⟩ 8 (by kernel_rfl) (by kernel_rfl) (by kernel_rfl) (by kernel_rfl)) ?_
  intro W base args ds gs before hval0 hW hcnd _
  have hval : ∀ (j : Nat) t v, Try.f3.params[j]? = some t → args[j]? = some v → Value.okWide Try.prog W .any base t v := hval0
  have hW' := hW
  obtain ⟨p, q, hA0, hV, rfl, hfz, hnd⟩ := hW
  have hA : DataW.TrodAll enc Try.prog W 0 (fun _ => true) true Try.f3.params.toList args.toList ds p := hA0
  rw [Try.params3] at hA hval
  have hA1 := hA
  obtain ⟨v0, vs0, d0, ds0, p0, q0, hargs, rfl, rfl, h0, r0⟩ := trodAll_cons hA
  obtain ⟨v1, vs1, d1, ds1, p1, q1, rfl, rfl, rfl, h1, r1⟩ := trodAll_cons r0
  obtain ⟨v2, vs2, d2, ds2, p2, q2, rfl, rfl, rfl, h2, r2⟩ := trodAll_cons r1
  obtain ⟨rfl, rfl, rfl⟩ := trodAll_nil r2
  obtain rfl : args = #[v0, v1, v2] := by cases args; simp_all
  obtain ⟨rfl, rfl⟩ := trodVars_none hV
  obtain ⟨a0, rfl, rfl, rfl, w0⟩ := open_int Try.underlying3 (hval 0 3 v0 rfl rfl) h0
  obtain ⟨n1, z1, rd1, wf1⟩ := open_i64s 9 Try.underlying22 (by kernel_rfl) (by decide) (by kernel_rfl) (hval 1 22 v1 rfl rfl) h1
  obtain ⟨a2, rfl, rfl, rfl, w2⟩ := open_int Try.underlying3 (hval 2 3 v2 rfl rfl) h2
  clear hA0 hval0
  simp only [List.append_nil] at hW' hA1
  refine (walk W a0 w0 v1 n1 z1 rd1 wf1 a2 w2).mono fun e W' ⟨he, hb⟩ => ?_
  subst he
  exact ⟨_, rfl, ⟨_, _, _, [], _, [], hW', trodAll_mk1 (shut_bool Try.underlying4 _), below_args laidOut hb (by kernel_rfl) hA1 (fun x hx => by simpa using hW'.lt x hx), rfl, hb.frame _, fun h => by cases h⟩⟩

theorem over : Rows.bufferRunsRow.holds Try.pinned (OpenSpec.ofChange Rows.bufferRunsSpec) :=
  OpenClaim.holds_of_wide 3 Try.f3 rfl rfl rfl rfl rfl rfl rfl ⟨rfl, rfl, rfl, rfl, rfl⟩ rfl rfl rfl rfl rfl (by kernel_rfl) Try.func3 (by kernel_rfl)
    (of_decide_eq_true (by kernel_rfl)) (by unfold Func.isWrapper; first | (rw [if_pos (by decide +kernel)]; kernel_rfl) | (rw [if_neg (by decide +kernel)]; exact ⟨rfl, rfl⟩))
    (fun os started H enc _ => lifted os started H enc)

theorem proved : Rows.BufferRunsSaid :=
  over
end
end Go.Proofs.Ytgjoofjkhcnekaa.bufferRuns
