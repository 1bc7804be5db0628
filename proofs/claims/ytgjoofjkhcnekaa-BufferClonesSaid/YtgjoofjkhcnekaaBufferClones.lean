/-
  BufferClones answers true, whatever the room and the calls are: a clone and its origin go on apart. Condition: none.
-/
import Derived.Test.YtgjoofjkhcnekaaBuf10
import Derived.Deep.DeepCutAuto
import Derived.Deep.CutBlock
import Derived.Test.YtgjoofjkhcnekaaOpen
set_option linter.unusedVariables false
namespace Go.Proofs.Ytgjoofjkhcnekaa.bufferClones
open Go.RowKit Go.Conc Go.Proofs.Ytgjoofjkhcnekaa.Chan Go.Proofs.Ytgjoofjkhcnekaa.Own Go.Proofs.Ytgjoofjkhcnekaa.Buf

set_option maxHeartbeats 4000000 in
set_option maxRecDepth 100000 in
theorem walk (w : World) (t : Int) (wf0 : (Lit.int .i64 t).wf = true) (lv1 : Value) (l1 : Nat) (zs1 : List Int) (hr1 : Rd w 9 lv1 l1 (vals zs1)) (wf1 : ∀ z ∈ zs1, (Lit.int .i64 z).wf = true)
    (lv2 : Value) (l2 : Nat) (zs2 : List Int) (hr2 : Rd w 9 lv2 l2 (vals zs2)) (wf2 : ∀ z ∈ zs2, (Lit.int .i64 z).wf = true)
    (lv3 : Value) (l3 : Nat) (zs3 : List Int) (hr3 : Rd w 9 lv3 l3 (vals zs3)) (wf3 : ∀ z ∈ zs3, (Lit.int .i64 z).wf = true) :
    Calls Try.prog 4 #[.int .i64 t, lv1, lv2, lv3] w fun e w' => e = .returned (.bool true) ∧ Below w.heap.size w w' := by
  obtain ⟨cap, hcap, hcapB⟩ : ∃ cap : Nat, near t 0 4 = cap ∧ cap ≤ 4 := by
    have := near_bd t 0 4 (by omega)
    exact ⟨(near t 0 4).toNat, by omega, by omega⟩
  have Hcap := Lib.hid hcap
  clear hcap
  have hm1 : l1 ≤ 9223372036854775807 := by obtain ⟨_, _, _, _, h1, h2, _⟩ := hr1; unfold maxLen at h2; omega
  have hm2 : l2 ≤ 9223372036854775807 := by obtain ⟨_, _, _, _, h1, h2, _⟩ := hr2; unfold maxLen at h2; omega
  have hm3 : l3 ≤ 9223372036854775807 := by obtain ⟨_, _, _, _, h1, h2, _⟩ := hr3; unfold maxLen at h2; omega
  obtain ⟨a1, c1, rfl⟩ : ∃ a c, lv1 = .slice a l1 c := by obtain ⟨_, a, c, h, _⟩ := hr1; exact ⟨a, c, h⟩
  obtain ⟨a2, c2, rfl⟩ : ∃ a c, lv2 = .slice a l2 c := by obtain ⟨_, a, c, h, _⟩ := hr2; exact ⟨a, c, h⟩
  obtain ⟨a3, c3, rfl⟩ : ∃ a c, lv3 = .slice a l3 c := by obtain ⟨_, a, c, h, _⟩ := hr3; exact ⟨a, c, h⟩
  obtain ⟨i0, hi, hz0, hz1, hz2⟩ := info_parts info_ent
  have R1 := Lib.hid hr1
  have R2 := Lib.hid hr2
  have R3 := Lib.hid hr3
  clear hr1 hr2 hr3
  go_enter Try.func4, Try.ntmps4
  go_wp2_with fail
  refine (alive_is _).mono ?_
  rintro e w1 ⟨rfl, k1⟩
  go_wp2_with fail
  refine (new_is t cap _ Hcap.out).mono ?_
  rintro e w2 ⟨b, c, rfl, p2, hc, hb, k2⟩
  have hB : w.heap.size ≤ w2.heap.size := Nat.le_trans k1.size k2.size
  have hcB : w.heap.size ≤ c := Nat.le_trans k1.size hc
  have hbB : w.heap.size ≤ b := Nat.le_trans k1.size hb
  have K2 : Kept No w w2 := k1.trans k2 (fun _ _ f => f)
  clear k1 k2 hc hb
  go_wp2_with fail
  refine (near_is t 0 4 cap _ Hcap.out).mono ?_
  rintro e w' ⟨rfl, rfl⟩
  have hi0 : Buf.Inv w' w.heap.size b c cap [] (.slice none 0 0) := ⟨p2, Seg.nil _ _ _ _, (fun g hg => by simp [Value.ownBlock] at hg), by simp⟩
  clear p2
  go_upto_block 0 with fail
  go_cut [10, 11] (fun v i wr => ∃ xs : List Ent, Buf.Inv wr w.heap.size b c cap xs v ∧ Kept No w wr)
  case first =>
    go_wp2_with fail
    go_loopw [11, 10] (fun i v wr => ∃ k : Nat, ∃ xs : List Ent, k ≤ l1 ∧ k ≤ 20 ∧ i = .int .i64 k ∧ Buf.Inv wr w.heap.size b c cap xs v ∧ Kept No w wr) (fun i v wr => 20 - (intOf i).toNat)
    case atStart => exact ⟨0, [], by omega, by omega, rfl, hi0, K2⟩
    case round =>
      obtain ⟨k, xs, hk, hk20, rfl, hi1, hK⟩ := hrel
      by_cases hlt : k < l1 ∧ k < 20
      · obtain ⟨hkl, hkl20⟩ := hlt
        obtain ⟨g, o, kind, n0, n1, n2, n3, n4, n5, n6, n7, hao, d0, d1, d2, d3, d4, d5, d6, d7, d8⟩ := cells_at R1.out hK k hkl
        have hsz := hK.size
        subst hao
        go_wp2_with fail
        refine (run_is w.heap.size b c cap _ xs kind ⟨n0, n1, n2, n3, n4, n5, n6, n7⟩ _ hsz hi1 hcapB).mono ?_
        rintro e w3 ⟨v3, rfl, hi3, hk3, ho3⟩
        have hK3 : Kept No w w3 := hK.trans hk3 (fun j hj h => by
          rcases h with h | h
          · omega
          · have := (hi1.seg.lt j h).1; omega)
        clear hk3 hi1 hK
        go_wp2_with fail
        go_roundw
        case rel => exact ⟨k + 1, _, by omega, by omega, by go_num, hi3, hK3⟩
        case measure => simp [intOf]; omega
      · have hlt' : ¬ k < l1 ∨ ¬ k < 20 := by omega
        rcases hlt' with h | h
        all_goals
          go_wp2_with fail
          all_goals
            go_meet
            case rel => exact ⟨xs, hi1, hK⟩
  case rest =>
    obtain ⟨xs, hi1, hK⟩ := hcut
    go_wp2_with fail
    refine (clone_some b c cap xs _ hi1.pt hi1.le hcapB).mono ?_
    rintro e w3 ⟨b', c', rfl, pc, pp, hbb, hcc, hk3⟩
    have hv3 := hi1.seg.kept hk3 (fun g hg => (hi1.apart g hg).2)
    have hK3 : Kept No w w3 := hK.trans hk3 (fun j hj h => by simp [Only] at h; omega)
    have hwc := hK.size
    have hw3 := hK3.size
    have hap := hi1.apart
    have hle := hi1.le
    have hcl := hi1.pt.2.1.lt
    have hbl := hi1.pt.2.2.1
    have hown := hi1.seg.lt
    have hbc := hk3.size
    clear hk3 hK hi1
    go_upto_region 12 with fail
    go_cut [13] (fun u wr => Both wr w.heap.size cap b c xs u10 b' c' xs u ∧ Kept No w wr)
    case first =>
      have hv3' := hv3
      obtain ⟨_, ⟨rfl, hx0⟩ | ⟨g, o, ca, cur, rfl, hg1, hg2, hg3, hg4, hg5, hg6⟩⟩ := hv3
      · obtain rfl : xs = [] := List.eq_nil_of_length_eq_zero hx0
        go_wp2_with (at_builtin; refine wpList_append_own_none rfl _ _ 27 rfl w.heap.size 35 i0 8 Try.underlying27 hi _ 0 [] rfl (World.ownsRow_nil _ _ _ _) rfl ?_)
        go_meet
        case rel =>
          refine ⟨⟨⟨pp, hv3', hap, hle⟩, ⟨pc, Seg.nil _ _ _ _, (fun g hg => by simp [Value.ownBlock] at hg), hle⟩, (fun g hg => by simp [Value.ownBlock] at hg), (fun g hg => by simp [Value.ownBlock] at hg), by omega, by omega, by omega⟩, hK3⟩
      · have hlt3 : g < w3.heap.size := (Array.getElem?_eq_some_iff.1 hg2).1
        have hgc := hap g rfl
        have hgl := hown g rfl
        go_wp2_with (at_builtin; refine wpList_append_seg rfl _ _ 27 rfl w.heap.size 35 i0 zero.v 8 64 Try.underlying27 hi hz0 hz1 hz2 rfl (by decide) _ _ _ rfl (Seg.nil _ _ _ _) ⟨g, o, none⟩ xs.length ca (ecs xs) rfl (ecs_len xs) ?c1 ?c2 ?c3 ?c4 hw3 ?_)
        case c1 =>
          intro j u hu
          rw [Addr.add_lit]
          have hj : j < xs.length * 8 := by have := (List.getElem?_eq_some_iff.1 hu).1; rw [ecs_len] at this; omega
          simp [World.cell?, hg2, hg6 j hj, hu]
        case c2 =>
          intro u hu
          simp only [ecs, vals, List.mem_flatMap, List.mem_map] at hu
          obtain ⟨_, _, z, _, rfl⟩ := hu
          rfl
        case c3 => unfold maxLen; omega
        case c4 => omega
        intro u w4 hs4 hgr4 ho4
        have hk4 : Kept No w3 w4 := (Kept.refl No w3).grown hgr4 (fun k _ h => by cases h)
        have hu4 : ∀ g, u.ownBlock = some g → w3.heap.size ≤ g := fun g hg => by
          rcases ho4 g hg with h | h
          · cases h
          · exact h
        have hs4' : Seg w4 w.heap.size 35 8 u xs.length (ecs xs) := by simpa using hs4
        clear hs4 hgr4 ho4
        go_wp2_with fail
        go_meet
        case rel =>
          have a1 := pc.2.2.1
          have a2 := pc.2.1.lt
          have a3 := pp.2.2.1
          have a4 := pp.2.1.lt
          refine ⟨⟨⟨pp.kept hk4 id id, hv3'.kept hk4 (fun _ _ => id), hap, hle⟩, ⟨pc.kept hk4 id id, hs4', (fun g hg => by have := hu4 g hg; omega), hle⟩, (fun g' hg' => ?_), (fun g hg => by have := hu4 g hg; omega), by omega, by omega, by omega⟩, hK3.trans hk4 (fun _ _ f => f)⟩
          simp only [Value.ownBlock, Option.some.injEq] at hg'
          subst hg'
          refine ⟨by omega, by omega, fun hu => ?_⟩
          have := hu4 g hu
          omega
    case rest =>
      obtain ⟨hbo, hK⟩ := hcut
      go_upto_block 2 with fail
      go_cut [10, 14] (fun v i wr => ∃ zs : List Ent, Both wr w.heap.size cap b c zs v b' c' xs u13 ∧ Kept No w wr)
      case first =>
        go_wp2_with fail
        go_loopw [14, 10] (fun i v wr => ∃ k : Nat, ∃ zs : List Ent, k ≤ l2 ∧ k ≤ 20 ∧ i = .int .i64 k ∧ Both wr w.heap.size cap b c zs v b' c' xs u13 ∧ Kept No w wr) (fun i v wr => 20 - (intOf i).toNat)
        case atStart => exact ⟨0, _, by omega, by omega, rfl, hbo, hK⟩
        case round =>
          obtain ⟨k, zs, hk, hk20, rfl, hb1, hK⟩ := hrel
          by_cases hlt : k < l2 ∧ k < 20
          · obtain ⟨hkl, hkl20⟩ := hlt
            obtain ⟨g, o, kind, n0, n1, n2, n3, n4, n5, n6, n7, hao, d0, d1, d2, d3, d4, d5, d6, d7, d8⟩ := cells_at R2.out hK k hkl
            have hsz := hK.size
            subst hao
            go_wp2_with fail
            refine (run_is w.heap.size b c cap _ zs kind ⟨n0, n1, n2, n3, n4, n5, n6, n7⟩ _ hsz hb1.one hcapB).mono ?_
            rintro e w5 ⟨v3, rfl, hi3, hk3, ho3⟩
            have hb3 := both_one hb1 hi3 hk3 ho3
            have hK3 : Kept No w w5 := hK.trans hk3 (fun j hj h => by
              rcases h with h | h
              · omega
              · have := (hb1.one.seg.lt j h).1; omega)
            clear hk3 hb1 hK hi3 ho3
            go_wp2_with fail
            go_roundw
            case rel => exact ⟨k + 1, _, by omega, by omega, by go_num, hb3, hK3⟩
            case measure => simp [intOf]; omega
          · have hlt' : ¬ k < l2 ∨ ¬ k < 20 := by omega
            rcases hlt' with h | h
            all_goals
              go_wp2_with fail
              all_goals
                go_meet
                case rel => exact ⟨zs, hb1, hK⟩
      case rest =>
        clear hbo hK
        obtain ⟨zs2', hbo, hK⟩ := hcut
        go_upto_block 4 with fail
        go_cut [13, 15] (fun v i wr => ∃ ys : List Ent, Both wr w.heap.size cap b c zs2' u10 b' c' ys v ∧ Kept No w wr)
        case first =>
          go_wp2_with fail
          go_loopw [15, 13] (fun i v wr => ∃ k : Nat, ∃ ys : List Ent, k ≤ l3 ∧ k ≤ 20 ∧ i = .int .i64 k ∧ Both wr w.heap.size cap b c zs2' u10 b' c' ys v ∧ Kept No w wr) (fun i v wr => 20 - (intOf i).toNat)
          case atStart => exact ⟨0, _, by omega, by omega, rfl, hbo, hK⟩
          case round =>
            obtain ⟨k, zs, hk, hk20, rfl, hb1, hK⟩ := hrel
            by_cases hlt : k < l3 ∧ k < 20
            · obtain ⟨hkl, hkl20⟩ := hlt
              obtain ⟨g, o, kind, n0, n1, n2, n3, n4, n5, n6, n7, hao, d0, d1, d2, d3, d4, d5, d6, d7, d8⟩ := cells_at R3.out hK k hkl
              have hsz := hK.size
              subst hao
              go_wp2_with fail
              refine (run_is w.heap.size b' c' cap _ zs kind ⟨n0, n1, n2, n3, n4, n5, n6, n7⟩ _ hsz hb1.two hcapB).mono ?_
              rintro e w5 ⟨v3, rfl, hi3, hk3, ho3⟩
              have hb3 := both_swap (both_one (both_swap hb1) hi3 hk3 ho3)
              have hK3 : Kept No w w5 := hK.trans hk3 (fun j hj h => by
                rcases h with h | h
                · omega
                · have := (hb1.two.seg.lt j h).1; omega)
              clear hk3 hb1 hK hi3 ho3
              go_wp2_with fail
              go_roundw
              case rel => exact ⟨k + 1, _, by omega, by omega, by go_num, hb3, hK3⟩
              case measure => simp [intOf]; omega
            · have hlt' : ¬ k < l3 ∨ ¬ k < 20 := by omega
              rcases hlt' with h | h
              all_goals
                go_wp2_with fail
                all_goals
                  go_meet
                  case rel => exact ⟨zs, hb1, hK⟩
        case rest =>
          clear hbo hK
          obtain ⟨ys2, hbo, hK⟩ := hcut
          go_wp2_with fail
          refine (told_inv w.heap.size b c cap _ _ _ _ _ _ _ hbo.one hcapB).mono ?_
          rintro e w6 ⟨rfl, hi6, hk6⟩
          have hi7 := hbo.two.kept hk6 (fun e => hbo.cs.1 e.symm) (fun e => hbo.cs.2.1 e.symm) (fun g hg e => (hbo.u1 g hg).2 e)
          have hK6 : Kept No w w6 := hK.trans hk6 (fun j hj h => by simp [Only] at h; omega)
          clear hbo hK hi6 hk6
          go_wp2_with fail
          refine (told_inv w.heap.size b' c' cap _ _ _ _ _ _ _ hi7 hcapB).mono ?_
          rintro e w7 ⟨rfl, hi8, hk8⟩
          have hK8 : Kept No w w7 := hK6.trans hk8 (fun j hj h => by simp [Only] at h; omega)
          go_wp2_with fail
          go_ret
          exact ⟨rfl, hK8.below (Nat.le_refl _) (fun _ _ => id)⟩

section
open Go.ChangeShapes Go.WideShapes Go.ChangeAt Go.RowKit Go.Proofs.Ytgjoofjkhcnekaa.Own Go.Proofs.Ytgjoofjkhcnekaa.Open

theorem own : ownKnob Try.prog.godebug = none := by kernel_rfl
theorem laidOut : laidOutB Try.prog = true := by kernel_rfl

set_option maxRecDepth 100000 in
theorem lifted (os : Os) (started : os.Started) (H : Type) (enc : TypeId × Value → H) :
    ReturnsInHanded {} Try.checked os 4 .any (Rows.bufferClonesSpec.pre6 enc Try.prog Try.f4 Rows.bufferClonesRow.domain false) (Rows.bufferClonesSpec.post enc Try.prog Try.f4 false true false false) := by
  refine returnsInHanded_of_change (C := Try.checked) own started (by kernel_rfl) Try.func4
    (ChangeSpec.witness6 (enc := enc) (C := Try.checked) false ⟨#[], #[.int .i64 0, .slice none 0 0, .slice none 0 0, .slice none 0 0], []⟩ 8 (by kernel_rfl) (by kernel_rfl) (by kernel_rfl) (by kernel_rfl)) ?_
  intro W base args ds gs before hval0 hW hcnd _
  have hval : ∀ (j : Nat) t v, Try.f4.params[j]? = some t → args[j]? = some v → Value.okWide Try.prog W .any base t v := hval0
  have hW' := hW
  obtain ⟨p, q, hA0, hV, rfl, hfz, hnd⟩ := hW
  have hA : DataW.TrodAll enc Try.prog W 0 (fun _ => true) true Try.f4.params.toList args.toList ds p := hA0
  rw [Try.params4] at hA hval
  have hA1 := hA
  obtain ⟨v0, vs0, d0, ds0, p0, q0, hargs, rfl, rfl, h0, r0⟩ := trodAll_cons hA
  obtain ⟨v1, vs1, d1, ds1, p1, q1, rfl, rfl, rfl, h1, r1⟩ := trodAll_cons r0
  obtain ⟨v2, vs2, d2, ds2, p2, q2, rfl, rfl, rfl, h2, r2⟩ := trodAll_cons r1
  obtain ⟨v3, vs3, d3, ds3, p3, q3, rfl, rfl, rfl, h3, r3⟩ := trodAll_cons r2
  obtain ⟨rfl, rfl, rfl⟩ := trodAll_nil r3
  obtain rfl : args = #[v0, v1, v2, v3] := by cases args; simp_all
  obtain ⟨rfl, rfl⟩ := trodVars_none hV
  obtain ⟨a0, rfl, rfl, rfl, w0⟩ := open_int Try.underlying3 (hval 0 3 v0 rfl rfl) h0
  obtain ⟨n1, z1, rd1, wf1⟩ := open_i64s 9 Try.underlying22 (by kernel_rfl) (by decide) (by kernel_rfl) (hval 1 22 v1 rfl rfl) h1
  obtain ⟨n2, z2, rd2, wf2⟩ := open_i64s 9 Try.underlying22 (by kernel_rfl) (by decide) (by kernel_rfl) (hval 2 22 v2 rfl rfl) h2
  obtain ⟨n3, z3, rd3, wf3⟩ := open_i64s 9 Try.underlying22 (by kernel_rfl) (by decide) (by kernel_rfl) (hval 3 22 v3 rfl rfl) h3
  clear hA0 hval0
  simp only [List.append_nil] at hW' hA1
  refine (walk W a0 w0 v1 n1 z1 rd1 wf1 v2 n2 z2 rd2 wf2 v3 n3 z3 rd3 wf3).mono fun e W' ⟨he, hb⟩ => ?_
  subst he
  exact ⟨_, rfl, ⟨_, _, _, [], _, [], hW', trodAll_mk1 (shut_bool Try.underlying4 _), below_args laidOut hb (by kernel_rfl) hA1 (fun x hx => by simpa using hW'.lt x hx), rfl, hb.frame _, fun h => by cases h⟩⟩

theorem over : Rows.bufferClonesRow.holds Try.pinned (OpenSpec.ofChange Rows.bufferClonesSpec) :=
  OpenClaim.holds_of_wide 4 Try.f4 rfl rfl rfl rfl rfl rfl rfl ⟨rfl, rfl, rfl, rfl, rfl⟩ rfl rfl rfl rfl rfl (by kernel_rfl) Try.func4 (by kernel_rfl)
    (of_decide_eq_true (by kernel_rfl)) (by unfold Func.isWrapper; first | (rw [if_pos (by decide +kernel)]; kernel_rfl) | (rw [if_neg (by decide +kernel)]; exact ⟨rfl, rfl⟩))
    (fun os started H enc _ => lifted os started H enc)

theorem proved : Rows.BufferClonesSaid :=
  over
end
end Go.Proofs.Ytgjoofjkhcnekaa.bufferClones
