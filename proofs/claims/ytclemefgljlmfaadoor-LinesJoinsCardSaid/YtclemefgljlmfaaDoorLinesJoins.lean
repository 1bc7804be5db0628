/-
  LinesJoins answers true, whatever the texts are. Condition: the seven variables that the row lists lie as their initialisers lay them.
-/
import Derived.Test.YtclemefgljlmfaaDoorLive08
import Derived.Test.YtclemefgljlmfaaDoorRefJoin
import Derived.Test.YtclemefgljlmfaaDoorRefNum
import Derived.Test.YtclemefgljlmfaaDoorOpenTexts
import Derived.BigQuiet
import Derived.Lay
import Derived.MakeChecks
import Derived.Test.YtclemefgljlmfaaDoorDoor
import Derived.Test.YtclemefgljlmfaaDoorOpen
import Derived.Test.YtclemefgljlmfaaDoorCards
import Derived.Test.YtclemefgljlmfaaDoorTie
set_option linter.unusedVariables false
namespace Go.Proofs.YtclemefgljlmfaaDoor.linesJoins
open Go.RowKit Go.Proofs.YtclemefgljlmfaaDoor.Own Go.Proofs.YtclemefgljlmfaaDoor.Line

def fineL (xs : List (List UInt8)) : Prop := ∀ t ∈ xs, isWord t
instance (xs : List (List UInt8)) : Decidable (fineL xs) := inferInstanceAs (Decidable (∀ t ∈ xs, _))
theorem fine_snoc (xs : List (List UInt8)) (t : List UInt8) : decide (fineL (xs ++ [t])) = (decide (fineL xs) && decide (isWord t)) := by
  by_cases h1 : fineL xs
  · by_cases h2 : isWord t
    · have : fineL (xs ++ [t]) := fun y hy => by
        rcases List.mem_append.1 hy with h | h
        · exact h1 y h
        · rw [List.mem_singleton] at h; rw [h]; exact h2
      rw [decide_eq_true this, decide_eq_true h1, decide_eq_true h2]; rfl
    · have : ¬ fineL (xs ++ [t]) := fun h => h2 (h t (by simp))
      rw [decide_eq_false this, decide_eq_true h1, decide_eq_false h2]; rfl
  · have : ¬ fineL (xs ++ [t]) := fun h => h1 (fun y hy => h y (by simp [hy]))
    rw [decide_eq_false this, decide_eq_false h1]; rfl

set_option maxRecDepth 100000 in
set_option maxHeartbeats 8000000 in
theorem walk (w : World) (hT : Door.Tabs w) (v0 : Value) (n : Nat) (xs : List (List UInt8)) (hrd : Rd w 1 v0 n (xs.map fun l => .string ⟨l.toArray⟩)) (hxs : ∀ x ∈ xs, x.length ≤ maxLen) :
    Calls Tryd.prog 6 #[v0] w fun e w' => e = .returned (.bool true) ∧ Below w.heap.size w w' := by
  obtain ⟨hl, ao, lc, rfl, hc, hm, hn, hR⟩ := hrd
  rw [List.length_map, Nat.mul_one] at hl
  unfold maxLen at hm
  have hl1 : xs.length ≤ n := by omega
  have hl2 : n ≤ xs.length := by omega
  obtain ⟨i0, hi, hz0, hz1, hz2⟩ := info_parts info_string
  have HT := Lib.hid hT
  have HR := Lib.hid hR
  have HX := Lib.hid hxs
  clear hT hR hxs hn hl
  go_enter Tryd.func6, Tryd.ntmps6
  go_wp2_with fail
  refine (alive_is w HT.out).mono ?_
  rintro e w1 ⟨rfl, k1⟩
  have K1 := Lib.hid k1
  clear k1
  go_wp2_with fail
  go_loopw [3, 4, 5] (fun o f i wr => ∃ (done : List (List UInt8)) (k : Nat) (fb : Bool), k ≤ n ∧ k ≤ 20 ∧ done.length ≤ k ∧ k ≤ done.length ∧ f = .bool fb ∧ i = .int .i64 k ∧ Hid (fb = decide (fineL done)) ∧ Hid (∀ t ∈ done, t.length ≤ 20) ∧ Seg wr w.heap.size 9 1 o done.length (sv done) ∧ Kept No w wr) (fun _ _ i _ => n - (intOf i).toNat)
  case atStart => exact ⟨[], 0, true, by omega, by omega, by simp, by simp, rfl, rfl, Lib.hid (by decide), Lib.hid (by simp), Seg.nil _ _ _ _, K1.out⟩
  case round =>
    obtain ⟨done, k, fb, hkn, hk20, hdl, hdl2, rfl, rfl, hfb, hd20, hseg, hK⟩ := hrel
    have hz := hK.size
    by_cases hgo : k < n ∧ k < 20
    · obtain ⟨hg1, hg2⟩ := hgo
      obtain ⟨g, o, rfl, hg, hcell⟩ := HR.out (by omega)
      have hq2 : decide ((k : Int) < 20) = true := by simp; omega
      have c : wr.cell? ⟨g, o + k, none⟩ = some (.string ⟨(xs[k]'(by omega)).toArray⟩) := (hK.cell (p := ⟨g, o + k, none⟩) hg id).trans (hcell k _ (by simp))
      have hxl := HX.out _ (List.getElem_mem (show k < xs.length by omega))
      generalize xs[k]'(by omega) = x at *
      have hsz : (⟨x.toArray⟩ : ByteArray).size ≤ maxLen := by rw [mk_size]; exact hxl
      generalize (⟨x.toArray⟩ : ByteArray) = sx at *
      clear hcell hxl
      obtain ⟨t, ht⟩ : ∃ t, sx.data.toList.take 20 = t := ⟨_, rfl⟩
      have htl : t.length ≤ 20 := by rw [← ht, List.length_take]; omega
      have hcut := fun w => cut_to sx 20 hsz (by omega) w
      rw [ht] at hcut
      obtain ⟨st, hst⟩ : ∃ st : ByteArray, (⟨t.toArray⟩ : ByteArray) = st := ⟨_, rfl⟩
      rw [hst] at hcut
      have htt : st.toList = t := toList_mk hst
      have hvx : sv [t] = [.string st] := by rw [← hst]; rfl
      have hw : ∀ w, Calls Tryd.prog 13 #[.string st] w (TextsPost w (wordsL t)) := fun w => by rw [← hst]; exact refwords_is t (by omega) w
      have Hcut := Lib.hid hcut
      have Htt := Lib.hid htt
      have HV := Lib.hid hvx
      have HW := Lib.hid hw
      have Hfs := Lib.hid (fine_snoc done t)
      have Hd20 : Hid (∀ y ∈ done ++ [t], y.length ≤ 20) := Lib.hid (fun y hy => by
        rcases List.mem_append.1 hy with h | h
        · exact hd20.out y h
        · rw [List.mem_singleton] at h; rw [h]; exact htl)
      clear hcut htt hvx hw ht hst hsz
      go_wp2_with fail
      refine (Hcut.out _).mono ?_
      rintro e w2 ⟨rfl, rfl⟩
      go_wp2_with (at_builtin; refine wpList_append_seg rfl _ _ 25 rfl w.heap.size 9 i0 (.string ⟨#[]⟩) 1 16 Tryd.underlying25 hi hz0 hz1 hz2 rfl (by decide) _ _ _ rfl (hseg.kept ((Kept.refl No _).alloc _) (fun _ _ f => f.elim)) ⟨_, 0, none⟩ 1 1 [.string st] rfl rfl (cell_one _ _ _) (fun u hu => by simp at hu; subst hu; rfl) (by unfold maxLen; omega) (by omega) (by simp; omega) ?_)
      intro v3 w3 hs3 hg3 hb3
      have hK3 : Kept No w w3 := (hK.alloc (.cells #[.string st] 9)).grown hg3 (fun g hlt hg => by have := (hseg.lt g hg).1; omega)
      have h3 := hs3
      rw [← HV.out] at h3
      have Hs3 : Hid (Seg w3 w.heap.size 9 1 v3 (done ++ [t]).length (sv (done ++ [t]))) := Lib.hid (by rw [List.length_append, sv_app]; exact h3)
      have Hdl : Hid ((done ++ [t]).length ≤ k + 1 ∧ k + 1 ≤ (done ++ [t]).length) := Lib.hid (by simp; omega)
      clear hs3 hg3 hb3 hseg h3
      cases fb
      · have Hff : Hid (false = decide (fineL (done ++ [t]))) := Lib.hid (by rw [Hfs.out, ← hfb.out]; rfl)
        go_wp2_with fail
        go_roundw
        case rel => exact ⟨done ++ [t], k + 1, false, by omega, by omega, Hdl.out.1, Hdl.out.2, rfl, by go_num, Hff, Hd20, Hs3.out, hK3⟩
        case measure => simp [intOf]; omega
      · go_wp2_with fail
        refine (HW.out w3).mono ?_
        rintro e w4 ⟨k4, v4, rfl, s4⟩
        have Hs4 := Lib.hid (Hs3.out.kept k4 (fun _ _ => id))
        have hK4 := hK3.trans k4 (fun _ _ f => f)
        obtain ⟨_, ao4, c4, rfl, _, hm4, _⟩ := s4.rd
        clear k4 s4 Hs3 hK3
        obtain ⟨ws, hws⟩ : ∃ ws, wordsL t = ws := ⟨_, rfl⟩
        have Hiw : Hid (isWord t ↔ ws = [t]) := Lib.hid (by rw [← hws]; exact Iff.rfl)
        have HW2 := HW.out
        rw [hws] at HW2 ⊢
        have HW3 := Lib.hid HW2
        clear hws HW2 HW
        unfold maxLen at hm4
        by_cases h1 : ws.length = 1
        · obtain ⟨y, rfl⟩ := List.length_eq_one_iff.1 h1
          clear h1
          have hi2 : isWord t ↔ y = t := by rw [Hiw.out]; simp
          have Hi2 := Lib.hid hi2
          have e1 : ((([y] : List (List UInt8)).length : Nat) : Int) = 1 := by simp
          rw [show ([y] : List (List UInt8)).length = 1 from rfl]
          clear hi2 Hiw e1
          go_wp2_with fail
          refine (HW3.out w4).mono ?_
          rintro e w5 ⟨k5, v5, rfl, s5⟩
          have Hs5 := Lib.hid (Hs4.out.kept k5 (fun _ _ => id))
          have hK5 := hK4.trans k5 (fun _ _ f => f)
          obtain ⟨_, ao5, c5, rfl, hc5, hm5, _, hR5⟩ := s5.rd
          obtain ⟨g5, o5, rfl, hg5, hcell5⟩ := hR5 (by simp)
          have hc0 := hcell5 0 (.string ⟨y.toArray⟩) rfl
          rw [Nat.add_zero] at hc0
          obtain ⟨sy, hsy⟩ : ∃ s : ByteArray, (⟨y.toArray⟩ : ByteArray) = s := ⟨_, rfl⟩
          rw [hsy] at hc0
          have hty := toList_mk hsy
          have Hty := Lib.hid hty
          rw [show ([y] : List (List UInt8)).length = 1 from rfl] at *
          unfold maxLen at hm5
          clear k5 s5 hR5 hcell5 hsy hty Hs4 hK4
          by_cases hyt : y = t
          · have hq3 : (sy.toList == st.toList) = true := by rw [Hty.out, Htt.out, hyt]; simp
            have Hff : Hid (true = decide (fineL (done ++ [t]))) := Lib.hid (by rw [Hfs.out, ← hfb.out, decide_eq_true (Hi2.out.2 hyt)]; rfl)
            clear hyt
            go_wp2_with fail
            go_roundw
            case rel => exact ⟨done ++ [t], k + 1, true, by omega, by omega, Hdl.out.1, Hdl.out.2, rfl, by go_num, Hff, Hd20, Hs5.out, hK5⟩
            case measure => simp [intOf]; omega
          · have hq3 : (sy.toList == st.toList) = false := by rw [Hty.out, Htt.out]; simp [hyt]
            have Hff : Hid (false = decide (fineL (done ++ [t]))) := Lib.hid (by rw [Hfs.out, ← hfb.out, decide_eq_false (fun h => hyt (Hi2.out.1 h))]; rfl)
            clear hyt
            go_wp2_with fail
            go_roundw
            case rel => exact ⟨done ++ [t], k + 1, false, by omega, by omega, Hdl.out.1, Hdl.out.2, rfl, by go_num, Hff, Hd20, Hs5.out, hK5⟩
            case measure => simp [intOf]; omega
        · have Hff : Hid (false = decide (fineL (done ++ [t]))) := Lib.hid (by
            rw [Hfs.out, ← hfb.out, decide_eq_false (fun h => h1 (by rw [Hiw.out.1 h]; rfl))]; rfl)
          generalize ws.length = m at *
          have hq3 : ((m : Int) == 1) = false := by rw [beq_eq_false_iff_ne]; omega
          clear h1
          go_wp2_with fail
          go_roundw
          case rel => exact ⟨done ++ [t], k + 1, false, by omega, by omega, Hdl.out.1, Hdl.out.2, rfl, by go_num, Hff, Hd20, Hs4.out, hK4⟩
          case measure => simp [intOf]; omega
    · have hb : (k < n) ∧ decide ((k : Int) < 20) = false ∨ ¬ k < n ∧ decide (k < n) = false := by
        by_cases h : k < n
        · exact .inl ⟨h, by simp; omega⟩
        · exact .inr ⟨h, by simp; omega⟩
      have hjb := join_bound 20 done hd20.out
      have hj : (Lib.join done [32]).length ≤ 420 := Nat.le_trans hjb (Nat.le_trans (Nat.mul_le_mul_left 21 (Nat.le_trans hdl hk20)) (by omega))
      have Hseg := Lib.hid hseg
      have HJ := Lib.hid hj
      obtain ⟨sj, hsj⟩ : ∃ s : ByteArray, (⟨(Lib.join done [32]).toArray⟩ : ByteArray) = s := ⟨_, rfl⟩
      have HSJ := Lib.hid hsj
      have Hwj : Hid (fineL done → wordsL (Lib.join done [32]) = done) := Lib.hid (fun h => words_join done h)
      have hdd : done.length ≤ 1000000 := by omega
      have hss : (sj.toList == sj.toList) = true := by simp
      clear hjb hj hsj hseg hgo
      rcases hb with ⟨hb1, hb2⟩ | ⟨hb1, hb2⟩
      all_goals
        go_wp2_with fail
        refine (join_is wr _ _ done Hseg.out.rd hdd (by have := HJ.out; omega)).mono ?_
        rw [HSJ.out]
        rintro e w2 ⟨rfl, k2⟩
        have Hs2 := Lib.hid (Hseg.out.kept k2 (fun _ _ => id))
        have hK2 := hK.trans k2 (fun _ _ f => f)
        clear k2
        go_wp2_with fail
        refine (refjoin_is w2 _ _ done Hs2.out.rd (by have := HJ.out; omega)).mono ?_
        rw [HSJ.out]
        rintro e w3 ⟨rfl, k3⟩
        have Hs3 := Lib.hid (Hs2.out.kept k3 (fun _ _ => id))
        have hK3 := hK2.trans k3 (fun _ _ f => f)
        clear k3 Hs2 hK2
        cases fb
        · go_wp2_with fail
          go_ret
          exact ⟨rfl, hK3.below (Nat.le_refl _) (fun _ _ => id)⟩
        · have hwj := Hwj.out (of_decide_eq_true hfb.out.symm)
          have hw := words_is (Lib.join done [32]) (by have := HJ.out; omega) w3
          rw [HSJ.out, hwj] at hw
          have HWW := Lib.hid hw
          clear hwj hw
          go_wp2_with fail
          refine HWW.out.mono ?_
          rintro e w4 ⟨k4, v4, rfl, s4⟩
          have Hs4 := Lib.hid (Hs3.out.kept k4 (fun _ _ => id))
          have hK4 := hK3.trans k4 (fun _ _ f => f)
          have S4 := Lib.hid s4
          clear k4 Hs3 hK3 s4
          go_wp2_with fail
          refine (texts_is w4 _ _ _ _ _ _ S4.out.rd Hs4.out.rd).mono ?_
          rintro e w5 ⟨rfl, k5⟩
          rw [decide_eq_true rfl]
          have hK5 := hK4.trans k5 (fun _ _ f => f)
          clear k5
          go_wp2_with fail
          go_ret
          exact ⟨rfl, hK5.below (Nat.le_refl _) (fun _ _ => id)⟩

section
open Go.ChangeShapes Go.WideShapes Go.ChangeAt Go.ChangeMaps Go.RowKit Go.Proofs.YtclemefgljlmfaaDoor.Own Go.Proofs.YtclemefgljlmfaaDoor.Open Go.Proofs.YtclemefgljlmfaaDoor.Door

theorem own : ownKnob Tryd.prog.godebug = none := by kernel_rfl
theorem laidOut : laidOutB Tryd.prog = true := by kernel_rfl

theorem door_met (os : Os) (args : Array Value) : laidMetH Tryd.prog Rows.linesJoinsRow.laid ((World.laidAll Tryd.prog os Rows.linesJoinsRow.laid).forCall (fun _ _ => 0) ⟨#[], args, []⟩).memory := by
  rw [MakeChecks.laidMetH_plain _ _ _ (by kernel_rfl)]
  exact laidMet_laidAll _ (by kernel_rfl) (by kernel_rfl)

set_option maxRecDepth 100000 in
theorem lifted (os : Os) (started : os.Started) (H : Type) (enc : TypeId × Value → H) :
    ReturnsInHanded {} Tryd.checked os 6 .any (fun w args => (Rows.linesJoinsSpec.pre enc Tryd.prog Tryd.f6 [] false w args ∧ laidMetH Tryd.prog Rows.linesJoinsRow.laid w) ∧ sizedMet enc Tryd.prog Tryd.f6 (OpenSpec.ofChange Rows.linesJoinsSpec) false w args) (Rows.linesJoinsSpec.post enc Tryd.prog Tryd.f6 false true false false) := by
  refine returnsInHanded_of_change_and (C := Tryd.checked) (X := fun w _ => laidMetH Tryd.prog Rows.linesJoinsRow.laid w) (fun _ _ _ hh h => h.of_heap hh) own started (by kernel_rfl) Tryd.func6
    (ChangeSpec.witness_shaped (enc := enc) (C := Tryd.checked) (os := os) (X := fun w _ => laidMetH Tryd.prog Rows.linesJoinsRow.laid w) false (World.laidAll Tryd.prog os Rows.linesJoinsRow.laid) #[.slice none 0 0] 8 (World.laidAll_os _ _ _) (World.shaped_of_ZipB (by kernel_rfl) (by kernel_rfl)) (by kernel_rfl) (by kernel_rfl) (by kernel_rfl) (door_met os _)) ?_
  intro W base args ds gs before hval0 hW _ _ hL _
  have hval : ∀ (j : Nat) t v, Tryd.f6.params[j]? = some t → args[j]? = some v → Value.okWide Tryd.prog W .any base t v := hval0
  have hW' := hW
  obtain ⟨p, q, hA0, hV, rfl, hfz, hnd⟩ := hW
  have hA : DataW.TrodAll enc Tryd.prog W 0 (fun _ => true) true Tryd.f6.params.toList args.toList ds p := hA0
  rw [Tryd.params6] at hA hval
  have hA1 := hA
  obtain ⟨v0, vs0, d0, ds0, p0, q0, hargs, rfl, rfl, h0, r0⟩ := trodAll_cons hA
  obtain ⟨rfl, rfl, rfl⟩ := trodAll_nil r0
  obtain rfl : args = #[v0] := by cases args; simp_all
  obtain ⟨rfl, rfl⟩ := trodVars_none hV
  obtain ⟨n0, z0, rd0, wf0⟩ := open_texts Tryd.underlying25 Tryd.underlying9 (by kernel_rfl) (hval 0 25 v0 rfl rfl) h0
  clear hA0 hval0
  simp only [List.append_nil] at hW' hA1
  refine (walk W (tabs_of hL) v0 n0 z0 rd0 wf0).mono fun e W' ⟨he, hb⟩ => ?_
  subst he
  exact ⟨_, rfl, ⟨_, _, _, [], _, [], hW', trodAll_mk1 (shut_bool Tryd.underlying4 _), below_args laidOut hb (by kernel_rfl) hA1 (fun x hx => by simpa using hW'.lt x hx), rfl, hb.frame _, fun h => by cases h⟩⟩

theorem said : Rows.LinesJoinsSaid :=
  OpenClaim.holds_of_wide 6 Tryd.f6 rfl rfl rfl rfl rfl rfl rfl ⟨rfl, rfl, rfl, rfl, rfl⟩ rfl rfl rfl rfl rfl (by kernel_rfl) Tryd.func6 (by kernel_rfl)
    (of_decide_eq_true (by kernel_rfl)) (by unfold Func.isWrapper; first | (rw [if_pos (by decide +kernel)]; kernel_rfl) | (rw [if_neg (by decide +kernel)]; exact ⟨rfl, rfl⟩))
    (fun os started H enc _ => lifted os started H enc)

theorem proved : Rows.LinesJoinsCardSaid :=
  Claim7.holds_tied_plain_at .later [] [.data, .data, .data, .data, .sentinel, .sentinel, .pinned] true Rows.linesJoinsCard.stood.harness true
    said (fun _ h => by cases h) (by kernel_rfl) (fun _ h => by cases h) linesJoins_row_tie rfl ⟨rfl, rfl⟩ (by kernel_rfl) rfl
    (fun f fn hf hfn => by
      obtain rfl : f = 6 := Option.some.inj ((show Tryd.prog.funcNamed "warrener/warrenerlaw08.LinesJoins" = some 6 by kernel_rfl).symm.trans hf) |>.symm
      obtain rfl : fn = Tryd.f6 := (Option.some.inj (Tryd.func6.symm.trans hfn)).symm
      exact ⟨by kernel_rfl, fun j t ht => by
        have hm : t ∈ Tryd.f6.params := Array.mem_of_getElem? ht
        have hall : (Tryd.f6.params.all fun u => !Tryd.prog.wantsStandIn u) = true := by kernel_rfl
        have := Array.all_eq_true_iff_forall_mem.1 hall t hm
        exact (show Tryd.prog.wantsStandIn t = false by simpa using this)⟩)
    (by kernel_rfl)
end
end Go.Proofs.YtclemefgljlmfaaDoor.linesJoins
