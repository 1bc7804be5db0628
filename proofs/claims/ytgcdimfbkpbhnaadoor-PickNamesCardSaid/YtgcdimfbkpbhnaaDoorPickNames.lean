/-
  PickNames answers true, whatever the numbers and the text are. Condition: the three tables that the row lists lie as their initialisers lay them.
-/
import Derived.Test.YtgcdimfbkpbhnaaDoorLive
import Derived.BigQuiet
import Derived.Deep.DeepCutAuto
import Derived.Deep.CutBlock
import Derived.Test.YtgcdimfbkpbhnaaDoorDoor
import Derived.Test.YtgcdimfbkpbhnaaDoorOpen
import Derived.Test.YtgcdimfbkpbhnaaDoorCards
import Derived.Test.YtgcdimfbkpbhnaaDoorTie
set_option linter.unusedVariables false
namespace Go.Proofs.YtgcdimfbkpbhnaaDoor.pickNames
open Go.RowKit Go.Proofs.YtgcdimfbkpbhnaaDoor.Own Go.Proofs.YtgcdimfbkpbhnaaDoor.Pick Go.Proofs.YtgcdimfbkpbhnaaDoor.Conv

theorem name_again (b : Nat) (s : List UInt8) (t : Int) (h : agentL s t = some b) : nameL b t = s ∧ s ≠ [] := by
  suffices H : ∀ d k, 8 - k = d → agentFrom s t k = some b → nameL b t = s ∧ s ≠ [] from H 8 0 rfl h
  intro d
  induction d with
  | zero =>
    intro k hk hb
    rw [agentFrom, dif_neg (by omega)] at hb
    cases hb
  | succ d ih =>
    intro k hk hb
    rw [agentFrom_step s t k (by omega)] at hb
    split at hb
    · rename_i hc
      cases hb
      exact ⟨hc.2, hc.1⟩
    · exact ih (k + 1) (by omega) hb
theorem nameL_inj {a b t : Int} (h : nameL a t = nameL b t) (ha : nameL a t ≠ []) : a = b := by
  unfold nameL at h ha
  split at ha
  case isFalse => exact (ha rfl).elim
  case isTrue h1 =>
    rw [if_pos h1] at h
    have dg : ∀ x : Nat, x < 10 → ∀ y : Nat, y < 10 → dig x = dig y → x = y := by decide
    split at h
    · split at h
      · split at h
        · simp at h
          have := dg _ (by omega) _ (by omega) h
          omega
        · simp at h
      · cases h
    · split at h
      · split at h
        · simp at h
        · simp at h
          have := dg _ (by omega) _ (by omega) h
          omega
      · cases h
theorem agent_name (a t : Int) (h : nameL a t ≠ []) : ∃ n : Nat, a = n ∧ agentL (nameL a t) t = some n := by
  have hr : 0 ≤ t ∧ t ≤ 4 ∧ 0 ≤ a ∧ a < 2 * t := by
    unfold nameL at h
    split at h
    · assumption
    · exact (h rfl).elim
  refine ⟨a.toNat, by omega, ?_⟩
  suffices H : ∀ d k, a.toNat - k = d → k ≤ a.toNat → agentFrom (nameL a t) t k = some a.toNat from H a.toNat 0 rfl (by omega)
  intro d
  induction d with
  | zero =>
    intro k hk hle
    obtain rfl : k = a.toNat := by omega
    rw [agentFrom_step _ _ _ (by omega), if_pos ⟨h, by rw [show ((a.toNat : Nat) : Int) = a by omega]⟩]
  | succ d ih =>
    intro k hk hle
    rw [agentFrom_step _ _ _ (by omega), if_neg (fun hc => by have := nameL_inj hc.2.symm h; omega)]
    exact ih (k + 1) (by omega) (by omega)
theorem agent_nil (t : Int) : agentL [] t = none := by
  suffices H : ∀ d k, 8 - k = d → agentFrom [] t k = none from H 8 0 rfl
  intro d
  induction d with
  | zero => intro k hk; rw [agentFrom, dif_neg (by omega)]
  | succ d ih => intro k hk; rw [agentFrom_step _ _ _ (by omega), if_neg (fun h => h.1 rfl)]; exact ih (k + 1) (by omega)

theorem conv_digit (W : World) (d : Nat) (hd : d < 10) : (convert 23 9 (.slice (some ⟨W.heap.size, 0, none⟩) 1 1)).run Tryd.prog (W.alloc (.cells #[.int .u8 (48 + (d : Int))] 5)) = .ok (.string ⟨#[dig d]⟩) (W.alloc (.cells #[.int .u8 (48 + (d : Int))] 5)) := by
  have e : Lib.byteCells [dig d] = [.int .u8 (48 + (d : Int))] := by
    have : ∀ d : Nat, d < 10 → (dig d).toNat = 48 + d := by decide
    simp [Lib.byteCells, this d hd]
  refine conv_string (P := Tryd.prog) _ 23 9 5 _ 1 [dig d] Tryd.underlying23 Tryd.underlying5 Tryd.underlying9 ?_
  rw [e]
  exact ⟨rfl, _, _, rfl, by omega, by unfold maxLen; omega, (fun h => by cases h), fun _ => ⟨_, _, rfl, by simp, fun j u hu => by have := cell_one W (.int .u8 (48 + (d : Int))) 5 j u hu; rwa [Addr.add_lit] at this⟩⟩

set_option maxHeartbeats 4000000 in
set_option maxRecDepth 100000 in
theorem walk (w : World) (hT : Door.Tabs w) (a : Int) (wf0 : (Lit.int .i64 a).wf = true) (t : Int) (wf1 : (Lit.int .i64 t).wf = true) (s0 : ByteArray) (ws : s0.size ≤ maxLen) :
    Calls Tryd.prog 3 #[.int .i64 a, .int .i64 t, .string s0] w fun e w' => e = .returned (.bool true) ∧ Below w.heap.size w w' := by
  have ha := Open.wf_bd wf0
  have ht := Open.wf_bd wf1
  obtain ⟨ha0, ha1⟩ := ha
  obtain ⟨ht0, ht1⟩ := ht
  unfold maxLen at ws
  clear wf0 wf1
  go_enter Tryd.func3, Tryd.ntmps3
  go_wp2_with fail
  refine (alive_is w).mono ?_
  rintro e w1 ⟨rfl, k1⟩
  go_upto_if 16 with fail
  go_cut [2] (fun v wr => ∃ s : ByteArray, v = .string s ∧ wr = w1)
  case first =>
    by_cases h10 : 10 < s0.size
    · go_wp2_with fail
      go_meet
      case rel => exact ⟨_, rfl, rfl⟩
    · go_wp2_with fail
      go_meet
      case rel => exact ⟨_, rfl, rfl⟩
  case rest =>
    obtain ⟨s, rfl, rfl⟩ := hcut
    go_upto_region 6 with fail
    go_cut [34] from 19 to 34 (fun v wr => v = .bool (decide (0 ≤ t ∧ t ≤ 4 ∧ 0 ≤ a ∧ a < 2 * t)) ∧ Kept No w wr)
    case first =>
      by_cases h1 : 0 ≤ t
      · by_cases h2 : t ≤ 4
        · have e0 : IntKind.i64.wrap (2 * t) = 2 * t := by rw [IntKind.wrap_i64]; omega
          by_cases h3 : 0 ≤ a
          · by_cases h4 : a < 2 * t
            · have hd : decide (0 ≤ t ∧ t ≤ 4 ∧ 0 ≤ a ∧ a < 2 * t) = true := by simp [h1, h2, h3, h4]
              have Hd := Lib.hid hd
              clear hd
              go_wp2_with fail
              go_meet
              case rel => exact ⟨by rw [Hd.out], k1⟩
            · have hd : decide (0 ≤ t ∧ t ≤ 4 ∧ 0 ≤ a ∧ a < 2 * t) = false := decide_eq_false (fun h => h4 h.2.2.2)
              have Hd := Lib.hid hd
              clear hd
              go_wp2_with fail
              go_meet
              case rel => exact ⟨by rw [Hd.out], k1⟩
          · have hd : decide (0 ≤ t ∧ t ≤ 4 ∧ 0 ≤ a ∧ a < 2 * t) = false := by simp [h1, h2, h3]
            have Hd := Lib.hid hd
            clear hd
            go_wp2_with fail
            go_meet
            case rel => exact ⟨by rw [Hd.out], k1⟩
        · have hd : decide (0 ≤ t ∧ t ≤ 4 ∧ 0 ≤ a ∧ a < 2 * t) = false := by simp [h1, h2]
          have Hd := Lib.hid hd
          clear hd
          go_wp2_with fail
          go_meet
          case rel => exact ⟨by rw [Hd.out], k1⟩
      · have hd : decide (0 ≤ t ∧ t ≤ 4 ∧ 0 ≤ a ∧ a < 2 * t) = false := by simp [h1]
        have Hd := Lib.hid hd
        clear hd
        go_wp2_with fail
        go_meet
        case rel => exact ⟨by rw [Hd.out], k1⟩
    case rest =>
    obtain ⟨rfl, k2⟩ := hcut
    clear k1
    have k1 := k2
    clear k2
    go_upto_if 34 with fail
    go_cut [7] from 34 to 58 (fun v wr => v = .string ⟨(nameL a t).toArray⟩ ∧ Kept No w wr)
    case first =>
      have hin0 : (0 ≤ t ∧ t ≤ 4 ∧ 0 ≤ a ∧ a < 2 * t) ∨ ¬ (0 ≤ t ∧ t ≤ 4 ∧ 0 ≤ a ∧ a < 2 * t) := Classical.em _
      rcases hin0 with hin | hin
      · obtain ⟨g1, g2, g3, g4⟩ := hin
        obtain ⟨n, rfl⟩ : ∃ n : Nat, a = n := ⟨a.toNat, by omega⟩
        have hb : decide (0 ≤ t ∧ t ≤ 4 ∧ 0 ≤ (n : Int) ∧ (n : Int) < 2 * t) = true := decide_eq_true ⟨g1, g2, g3, g4⟩
        rw [hb]
        clear hb
        by_cases hlt : (n : Int) < t
        · have hn : nameL n t = [116, dig n] := by simp [nameL, g1, g2, g4, hlt]
          have e1 : (n : Int) % 4 = n := by omega
          have hcv := conv_digit wc n (by omega)
          have hap := append_two 116 (dig n)
          have Hn := Lib.hid hn
          clear hn
          go_wp2_with fail
          go_meet
          case rel => exact ⟨by rw [Hn.out], k1.alloc _⟩
        · obtain ⟨r, hr, hr4⟩ : ∃ r : Nat, (n : Int) % 4 = r ∧ r < 4 := ⟨n % 4, by omega, by omega⟩
          obtain ⟨q, hq⟩ : ∃ q : Nat, (n : Int) - t = q := ⟨((n : Int) - t).toNat, by omega⟩
          have hn : nameL n t = [102, dig q] := by
            simp only [nameL, g1, g2, g3, g4, hlt, and_self, if_true, if_false, hq, Int.toNat_natCast]
          have e1 : IntKind.i64.wrap ((n : Int) - t) = q := by rw [IntKind.wrap_i64]; omega
          have e2 : (q : Int) % 4 = q := by omega
          have hcv := conv_digit wc r (by omega)
          have hcv2 := conv_digit (wc.alloc (.cells #[.int .u8 (48 + (r : Int))] 5)) q (by omega)
          rw [World.size_alloc] at hcv2
          have hap := append_two 116 (dig r)
          have hap2 := append_two 102 (dig q)
          have Hn := Lib.hid hn
          have g5 : t ≤ (n : Int) := by omega
          clear hn hlt
          go_wp2_with fail
          go_meet
          case rel => exact ⟨by rw [Hn.out], (k1.alloc _).alloc _⟩
      · have hn : nameL a t = [] := by simp only [nameL, if_neg hin]
        have Hn := Lib.hid hn
        clear hn
        have hb : decide (0 ≤ t ∧ t ≤ 4 ∧ 0 ≤ a ∧ a < 2 * t) = false := decide_eq_false hin
        rw [hb]
        clear hin hb
        go_wp2_with fail
        go_meet
        case rel => exact ⟨by rw [Hn.out], k1⟩
    case rest =>
      obtain ⟨rfl, K2⟩ := hcut
      have hq0 : (nameL a t == nameL a t) = true := by simp
      have hnA := agent_name a t
      have hAa := name_again
      obtain ⟨nm, hnm⟩ : ∃ l, nameL a t = l := ⟨_, rfl⟩
      rw [hnm] at hq0 hnA ⊢
      have HnA := Lib.hid hnA
      have Hnm := Lib.hid hnm
      clear hnA hnm hAa
      go_wp2_with fail
      refine (name_is a t _).mono ?_
      rw [Hnm.out]
      rintro e w2 ⟨rfl, rfl⟩
      go_wp2_with fail
      refine (agent_is s t w2).mono ?_
      rintro e w2 ⟨rfl, rfl⟩
      have hT := ByteArray.toList_eq s
      rcases hA : agentL s.data.toList t with _ | b
      · simp only [Option.getD_none, Option.isSome_none]
        clear hT hA
        go_wp2_with fail
        refine (agent_is ⟨nm.toArray⟩ t w2).mono ?_
        rintro e w2 ⟨rfl, rfl⟩
        by_cases h0 : nm = []
        · subst h0
          have e1 := agent_nil t
          simp only [e1]
          go_wp2_with fail
          go_ret
          exact ⟨rfl, K2.below (Nat.le_refl _) (fun _ _ => id)⟩
        · obtain ⟨n, rfl, e1⟩ := HnA.out h0
          simp only [e1]
          go_wp2_with fail
          go_ret
          exact ⟨rfl, K2.below (Nat.le_refl _) (fun _ _ => id)⟩
      · obtain ⟨h1, h2⟩ := name_again b _ t hA
        rw [← hT] at h1 h2
        simp only [Option.getD_some, Option.isSome_some]
        have H1 := Lib.hid h1
        have h3 : (s.toList == s.toList) = true := by simp
        have h4 : (!s.toList.isEmpty) = true := by simp [h2]
        clear hT hA h1
        go_wp2_with fail
        refine (name_is b t _).mono ?_
        rw [H1.out]
        rintro e w2 ⟨rfl, rfl⟩
        go_wp2_with fail
        go_ret
        exact ⟨by first | rfl | simp, K2.below (Nat.le_refl _) (fun _ _ => id)⟩

section
open Go.ChangeShapes Go.WideShapes Go.ChangeAt Go.ChangeMaps Go.RowKit Go.Proofs.YtgcdimfbkpbhnaaDoor.Own Go.Proofs.YtgcdimfbkpbhnaaDoor.Open Go.Proofs.YtgcdimfbkpbhnaaDoor.Door

theorem own : ownKnob Tryd.prog.godebug = none := by kernel_rfl
theorem laidOut : laidOutB Tryd.prog = true := by kernel_rfl

theorem door_met (os : Os) (args : Array Value) : laidMetH Tryd.prog Rows.pickNamesRow.laid ((World.doorLaid Tryd.prog 24 os).forCall (fun _ _ => 0) ⟨#[], args, []⟩).memory :=
  laidMetH_of_parts3 (fuel := 8) (laidMet_of_run' 8 (by kernel_rfl) (by kernel_rfl)) (by kernel_rfl) (by kernel_rfl)

set_option maxRecDepth 100000 in
theorem lifted (os : Os) (started : os.Started) (H : Type) (enc : TypeId × Value → H) :
    ReturnsInHanded {} Tryd.checked os 3 .any (fun w args => (Rows.pickNamesSpec.pre enc Tryd.prog Tryd.f3 [] false w args ∧ laidMetH Tryd.prog Rows.pickNamesRow.laid w) ∧ sizedMet enc Tryd.prog Tryd.f3 (OpenSpec.ofChange Rows.pickNamesSpec) false w args) (Rows.pickNamesSpec.post enc Tryd.prog Tryd.f3 false true false false) := by
  refine returnsInHanded_of_change_and (C := Tryd.checked) (X := fun w _ => laidMetH Tryd.prog Rows.pickNamesRow.laid w) (fun _ _ _ hh h => h.of_heap hh) own started (by kernel_rfl) Tryd.func3
    (ChangeSpec.witness_shaped (enc := enc) (C := Tryd.checked) (os := os) (X := fun w _ => laidMetH Tryd.prog Rows.pickNamesRow.laid w) false (World.doorLaid Tryd.prog 24 os) #[.int .i64 0, .int .i64 0, .string ⟨#[]⟩] 8 rfl (World.shaped_of_RefB (by kernel_rfl) (by kernel_rfl)) (by kernel_rfl) (by kernel_rfl) (by kernel_rfl) (door_met os _)) ?_
  intro W base args ds gs before hval0 hW _ _ hL _
  have hval : ∀ (j : Nat) t v, Tryd.f3.params[j]? = some t → args[j]? = some v → Value.okWide Tryd.prog W .any base t v := hval0
  have hW' := hW
  obtain ⟨p, q, hA0, hV, rfl, hfz, hnd⟩ := hW
  have hA : DataW.TrodAll enc Tryd.prog W 0 (fun _ => true) true Tryd.f3.params.toList args.toList ds p := hA0
  rw [Tryd.params3] at hA hval
  have hA1 := hA
  obtain ⟨v0, vs0, d0, ds0, p0, q0, hargs, rfl, rfl, h0, r0⟩ := trodAll_cons hA
  obtain ⟨v1, vs1, d1, ds1, p1, q1, rfl, rfl, rfl, h1, r1⟩ := trodAll_cons r0
  obtain ⟨v2, vs2, d2, ds2, p2, q2, rfl, rfl, rfl, h2, r2⟩ := trodAll_cons r1
  obtain ⟨rfl, rfl, rfl⟩ := trodAll_nil r2
  obtain rfl : args = #[v0, v1, v2] := by cases args; simp_all
  obtain ⟨rfl, rfl⟩ := trodVars_none hV
  obtain ⟨a0, rfl, rfl, rfl, w0⟩ := open_int Tryd.underlying3 (hval 0 3 v0 rfl rfl) h0
  obtain ⟨a1, rfl, rfl, rfl, w1⟩ := open_int Tryd.underlying3 (hval 1 3 v1 rfl rfl) h1
  obtain ⟨a2, rfl, rfl, rfl, w2⟩ := open_string Tryd.underlying9 (hval 2 9 v2 rfl rfl) h2
  clear hA0 hval0
  simp only [List.append_nil] at hW' hA1
  refine (walk W (tabs_of hL) a0 w0 a1 w1 a2 w2).mono fun e W' ⟨he, hb⟩ => ?_
  subst he
  exact ⟨_, rfl, ⟨_, _, _, [], _, [], hW', trodAll_mk1 (shut_bool Tryd.underlying4 _), below_args laidOut hb (by kernel_rfl) hA1 (fun x hx => by simpa using hW'.lt x hx), rfl, hb.frame _, fun h => by cases h⟩⟩

theorem said : Rows.PickNamesSaid :=
  OpenClaim.holds_of_wide 3 Tryd.f3 rfl rfl rfl rfl rfl rfl rfl ⟨rfl, rfl, rfl, rfl, rfl⟩ rfl rfl rfl rfl rfl (by kernel_rfl) Tryd.func3 (by kernel_rfl)
    (of_decide_eq_true (by kernel_rfl)) (by unfold Func.isWrapper; first | (rw [if_pos (by decide +kernel)]; kernel_rfl) | (rw [if_neg (by decide +kernel)]; exact ⟨rfl, rfl⟩))
    (fun os started H enc _ => lifted os started H enc)

theorem proved : Rows.PickNamesCardSaid :=
  Claim7.holds_tied_plain_at .later [] [.data, .data, .data] true Rows.pickNamesCard.stood.harness false
    said (fun _ h => by cases h) (by kernel_rfl) (fun _ h => by cases h) pickNames_row_tie rfl ⟨rfl, rfl⟩ (by kernel_rfl) rfl
    (fun f fn hf hfn => by
      obtain rfl : f = 3 := Option.some.inj ((show Tryd.prog.funcNamed "warrener/warrenerlaw30.PickNames" = some 3 by kernel_rfl).symm.trans hf) |>.symm
      obtain rfl : fn = Tryd.f3 := (Option.some.inj (Tryd.func3.symm.trans hfn)).symm
      exact ⟨by kernel_rfl, fun j t ht => by
        have hm : t ∈ Tryd.f3.params := Array.mem_of_getElem? ht
        have hall : (Tryd.f3.params.all fun u => !Tryd.prog.wantsStandIn u) = true := by kernel_rfl
        have := Array.all_eq_true_iff_forall_mem.1 hall t hm
        exact (show Tryd.prog.wantsStandIn t = false by simpa using this)⟩)
    (by kernel_rfl)
end
end Go.Proofs.YtgcdimfbkpbhnaaDoor.pickNames
