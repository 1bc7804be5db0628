/-
  SetOf answers true, whatever the numbers are. Condition: the table of math/bits lies as its initialiser lays it.
-/
import Derived.Test.YtpggdafhpdipjaaDoorAlive
import Derived.Deep.DeepCutAuto
import Derived.Deep.CutBlock
import Derived.Test.YtpggdafhpdipjaaDoorDoor
import Derived.Test.YtpggdafhpdipjaaDoorOpen
import Derived.Test.YtpggdafhpdipjaaDoorCards
import Derived.Test.YtpggdafhpdipjaaDoorTie
set_option linter.unusedVariables false
namespace Go.Proofs.YtpggdafhpdipjaaDoor.setOf
open Go.RowKit Go.Proofs.YtpggdafhpdipjaaDoor.Own Go.Proofs.YtpggdafhpdipjaaDoor.Sets

theorem tb_of (zs : List Int) (j : Nat) (hj : j < 64) : (ofN zs).testBit j = zs.any fun z => z == (j : Int) := by
  suffices h : ∀ (zs : List Int) (s : Nat), (zs.foldl with_ s).testBit j = (s.testBit j || zs.any fun z => z == (j : Int)) by
    have := h zs 0
    simpa [ofN] using this
  intro zs
  induction zs with
  | nil => intro s; simp
  | cons z zs ih =>
    intro s
    rw [List.foldl_cons, ih, List.any_cons]
    by_cases hz : 0 ≤ z ∧ z < 64
    · rw [tb_with hz, Bool.or_assoc]
      congr 2
      rw [Bool.eq_iff_iff]
      simp only [decide_eq_true_eq, beq_iff_eq]
      omega
    · rw [with_out hz]
      have : (z == (j : Int)) = false := by rw [beq_eq_false_iff_ne]; omega
      rw [this]; simp

theorem of_mem (s : Nat) (hs : s < 18446744073709551616) : ofN (mem s) = s := by
  refine Nat.eq_of_testBit_eq fun j => ?_
  by_cases hj : j < 64
  · rw [tb_of _ _ hj, Bool.eq_iff_iff, List.any_eq_true]
    simp only [beq_iff_eq]
    constructor
    · rintro ⟨z, hz, rfl⟩
      simp only [mem, memN, List.mem_map, List.mem_filter] at hz
      obtain ⟨a, ⟨_, ha⟩, e⟩ := hz
      have : a = j := by omega
      subst this; exact ha
    · intro h
      exact ⟨(j : Int), by simp only [mem, memN, List.mem_map, List.mem_filter]; exact ⟨j, ⟨List.mem_range.2 hj, h⟩, rfl⟩, rfl⟩
  · rw [tb_big (ofN_lt _) (by omega), tb_big hs (by omega)]

def wN (s i : Nat) : List Int := ((List.range i).filter fun j => s.testBit j).map fun (j : Nat) => (j : Int)
theorem wN_succ (s i : Nat) : wN s (i + 1) = if s.testBit i then wN s i ++ [(i : Int)] else wN s i := by
  unfold wN
  rw [List.range_succ, List.filter_append, List.map_append]
  by_cases h : s.testBit i <;> simp [h]
theorem wN_len (s i : Nat) : (wN s i).length ≤ i := by
  unfold wN
  rw [List.length_map]
  have := List.length_filter_le (fun j => s.testBit j) (List.range i)
  simpa using this

set_option maxHeartbeats 4000000 in
set_option maxRecDepth 100000 in
theorem walk (w : World) (hT : Door.Tabs w) (lv : Value) (ln : Nat) (zs0 : List Int) (hr0 : Rd w 1 lv ln (vals zs0)) (wf1 : ∀ z ∈ zs0, (Lit.int .i64 z).wf = true) :
    Calls Tryd.prog 3 #[lv] w fun e w' => e = .returned (.bool true) ∧ Below w.heap.size w w' := by
  have h0w : 0 < w.heap.size := hT.pos
  obtain ⟨i0, hi, hz0, hz1, hz2⟩ := info_parts info_int
  obtain ⟨hzl, ao, lc, rfl, hca, hma, hnone, hR⟩ := hr0
  rw [vals_len, Nat.mul_one] at hzl
  unfold maxLen at hma
  have HR := Lib.hid hR
  clear hR
  go_enter Tryd.func3, Tryd.ntmps3
  go_wp2_with fail
  refine (alive_is w hT h0w).mono ?_
  rintro e w1 ⟨rfl, k1⟩
  have hz1' := k1.size
  go_upto_if 12 with fail
  go_cut [0] (fun v wr => ∃ n : Nat, ∃ zs : List Int, n ≤ 200 ∧ Rd w 1 v n (vals zs) ∧ wr = w1)
  case first =>
    by_cases h200 : 200 < ln
    · obtain ⟨g, o, rfl, hg, hcell⟩ := HR.out (by omega)
      go_wp2_with fail
      go_meet
      case rel =>
        refine ⟨200, zs0.take 200, by omega, ⟨by simp [vals]; omega, _, _, rfl, by omega, by unfold maxLen; omega, (fun e => by cases e), fun _ => ⟨g, o, rfl, hg, fun j u hu => hcell j u ?_⟩⟩, rfl⟩
        rw [show vals (zs0.take 200) = (vals zs0).take 200 by simp [vals], List.getElem?_take] at hu
        split at hu
        · exact hu
        · cases hu
    · go_wp2_with fail
      go_meet
      case rel => exact ⟨ln, zs0, by omega, ⟨by rw [vals_len]; omega, _, _, rfl, hca, by unfold maxLen; omega, hnone, HR.out⟩, rfl⟩
  case rest =>
    obtain ⟨n, zs, hn, hr, rfl⟩ := hcut
    have hrl := hr
    obtain ⟨hzl2, a2, c2, rfl, hca2, hma2, hnone2, hR2⟩ := hrl
    rw [vals_len, Nat.mul_one] at hzl2
    unfold maxLen at hma2
    have HR2 := Lib.hid hR2
    have Hr := Lib.hid hr
    clear hR2 hr
    go_wp2_with fail
    refine (of_is _ _ n zs (Hr.out.kept k1 (fun _ _ => id))).mono ?_
    rintro e w2 ⟨rfl, rfl⟩
    have hsl := ofN_lt zs
    have htb := tb_of zs
    have HT := Lib.hid htb
    clear htb
    go_wp2_with fail
    go_loopw [4, 5] (fun v i wr => ∃ k : Nat, k ≤ 64 ∧ i = .int .i64 k ∧ Seg wr w.heap.size 3 1 v (wN (ofN zs) k).length (vals (wN (ofN zs) k)) ∧ Kept No w wr) (fun v i wr => 64 - (intOf i).toNat)
    case atStart => exact ⟨0, by omega, rfl, Seg.nil _ _ _ _, k1⟩
    case round =>
      obtain ⟨k, hk, rfl, hseg, hK⟩ := hrel
      by_cases hlt : k < 64
      · go_wp2_with fail
        go_loop [6, 7] (fun b i => ∃ m : Nat, m ≤ n ∧ i = .int .i64 m ∧ b = .bool ((zs.take m).any fun z => z == (k : Int))) (fun b i => n - (intOf i).toNat)
        case atStart => exact ⟨0, by omega, rfl, by simp⟩
        case round =>
          obtain ⟨m, hm, rfl, rfl⟩ := hrel
          by_cases hmn : m < n
          · obtain ⟨g, o, rfl, hg, hcell⟩ := HR2.out (by omega)
            have c : wr.cell? ⟨g, o + m, none⟩ = some (.int .i64 (zs[m]'(by omega))) := (hK.cell (p := ⟨g, o + m, none⟩) hg id).trans (hcell m _ (by simp [vals]))
            have e1 : zs.take (m + 1) = zs.take m ++ [zs[m]'(by omega)] := by simp
            generalize zs[m]'(by omega) = z at *
            clear hcell
            cases hb : (zs.take m).any fun z => z == (k : Int) with
            | true =>
              go_wp2_with fail
              go_round
              case rel => exact ⟨m + 1, by omega, by go_num, by rw [e1, List.any_append, hb]; rfl⟩
              case measure => simp [intOf]; omega
            | false =>
              go_wp2_with fail
              go_round
              case rel => exact ⟨m + 1, by omega, by go_num, by rw [e1, List.any_append, hb]; simp⟩
              case measure => simp [intOf]; omega
          · obtain rfl : m = n := by omega
            have hbk := HT.out k hlt
            have hh : hasB (ofN zs) (k : Int) = (ofN zs).testBit k := by rw [hasB_in ⟨by omega, by omega⟩]; rfl
            have hw := wN_succ (ofN zs) k
            have hwl := wN_len (ofN zs) k
            rw [List.take_of_length_le (by omega)]
            cases hb : zs.any fun z => z == (k : Int) with
            | true =>
              rw [hb] at hbk
              rw [hbk] at hh hw
              simp only [if_true] at hw
              go_wp2_with (at_builtin; refine wpList_append_seg rfl _ _ 22 rfl w.heap.size 3 i0 (.int .i64 0) 1 8 Tryd.underlying22 hi hz0 hz1 hz2 rfl (by decide) _ _ _ rfl (hseg.kept ((Kept.refl No _).alloc _) (fun _ _ f => f.elim)) ⟨_, 0, none⟩ 1 1 (vals [(k : Int)]) rfl rfl ?c1 ?c2 ?c3 ?c4 ?c5 ?_)
              case c1 => exact fun _ _ h => h
              case c2 => exact one_ints _
              case c3 => unfold maxLen; omega
              case c4 => omega
              case c5 => have := hK.size; simp; omega
              intro v3 w3 hs3 hg3 hb3
              have hK3 : Kept No w w3 := (hK.alloc (.cells #[.int .i64 k] 3)).grown hg3 (fun g hlt hg => by have := (hseg.lt g hg).1; omega)
              go_wp2_with fail
              refine (has_is _ hsl k _).mono ?_
              rintro e w' ⟨rfl, rfl⟩
              rw [hh]
              go_wp2_with fail
              go_roundw
              case rel => exact ⟨k + 1, by omega, by go_num, by rw [hw, List.length_append]; simpa [vals] using hs3, hK3⟩
              case measure => simp [intOf]; omega
            | false =>
              rw [hb] at hbk
              rw [hbk] at hh hw
              simp only [Bool.false_eq_true, if_false] at hw
              go_wp2_with fail
              refine (has_is _ hsl k _).mono ?_
              rintro e w' ⟨rfl, rfl⟩
              rw [hh]
              go_wp2_with fail
              go_roundw
              case rel => exact ⟨k + 1, by omega, by go_num, by rw [hw]; exact hseg, hK⟩
              case measure => simp [intOf]; omega
      · obtain rfl : k = 64 := by omega
        have hz := hK.size
        have hwm : wN (ofN zs) 64 = mem (ofN zs) := rfl
        rw [hwm] at hseg
        go_wp2_with fail
        refine (list_is _ hsl _ (hT.kept hK id) (by omega)).mono ?_
        rintro e w3 ⟨v3, rfl, hr3, k3⟩
        have hseg3 := hseg.kept k3 (fun _ _ => id)
        have hK3 : Kept No w w3 := hK.trans k3 (fun _ _ f => f)
        go_wp2_with fail
        refine (ints_is _ _ _ _ _ _ _ (rd_of_owns hr3) hseg3.rd).mono ?_
        rintro e w4 ⟨rfl, k4⟩
        have hK4 : Kept No w w4 := hK3.trans k4 (fun _ _ f => f)
        have hz4 := hK4.size
        have hml := mem_len (ofN zs)
        have hseg4 := hseg3.kept k4 (fun _ _ => id)
        have hd : decide (mem (ofN zs) = mem (ofN zs)) = true := by simp
        rw [hd]
        obtain ⟨a5, c5, rfl⟩ : ∃ a c, u4 = .slice a (mem (ofN zs)).length c := by obtain ⟨_, a, c, h, _⟩ := hseg4.rd; exact ⟨a, c, h⟩
        go_wp2_with fail
        refine (count_is _ hsl _).mono ?_
        rintro e w' ⟨rfl, rfl⟩
        rw [← hml]
        go_wp2_with fail
        refine (list_is _ hsl _ (hT.kept hK4 id) (by omega)).mono ?_
        rintro e w5 ⟨v5, rfl, hr5, k5⟩
        have hK5 := hK4.trans k5 (fun _ _ f => f)
        go_wp2_with fail
        refine (of_is _ _ _ _ (rd_of_owns hr5)).mono ?_
        rintro e w' ⟨rfl, rfl⟩
        rw [of_mem _ hsl]
        go_wp2_with fail
        go_ret
        exact ⟨rfl, hK5.below (Nat.le_refl _) (fun _ _ => id)⟩

section
open Go.ChangeShapes Go.WideShapes Go.ChangeAt Go.RowKit Go.Proofs.YtpggdafhpdipjaaDoor.Own Go.Proofs.YtpggdafhpdipjaaDoor.Open Go.Proofs.YtpggdafhpdipjaaDoor.Door

theorem own : ownKnob Tryd.prog.godebug = none := by kernel_rfl
theorem laidOut : laidOutB Tryd.prog = true := by kernel_rfl

theorem door_met (os : Os) (args : Array Value) : laidMetH Tryd.prog Rows.setOfRow.laid ((World.doorLaid Tryd.prog 14 os).forCall (fun _ _ => 0) ⟨#[], args, []⟩).memory :=
  laidMetH_of_parts3 (fuel := 8) (laidMet_of_run' 8 (by kernel_rfl) (by kernel_rfl)) (by kernel_rfl) (by kernel_rfl)

set_option maxRecDepth 100000 in
theorem lifted (os : Os) (started : os.Started) (H : Type) (enc : TypeId × Value → H) :
    ReturnsInHanded {} Tryd.checked os 3 .any (fun w args => (Rows.setOfSpec.pre enc Tryd.prog Tryd.f3 [] false w args ∧ laidMetH Tryd.prog Rows.setOfRow.laid w) ∧ sizedMet enc Tryd.prog Tryd.f3 (OpenSpec.ofChange Rows.setOfSpec) false w args) (Rows.setOfSpec.post enc Tryd.prog Tryd.f3 false true false false) := by
  refine returnsInHanded_of_change_and (C := Tryd.checked) (X := fun w _ => laidMetH Tryd.prog Rows.setOfRow.laid w) (fun _ _ _ hh h => h.of_heap hh) own started (by kernel_rfl) Tryd.func3
    (ChangeSpec.witness_shaped (enc := enc) (C := Tryd.checked) (os := os) (X := fun w _ => laidMetH Tryd.prog Rows.setOfRow.laid w) false (World.doorLaid Tryd.prog 14 os) #[.slice none 0 0] 8 rfl (World.shaped_of_RefB (by kernel_rfl) (by kernel_rfl)) (by kernel_rfl) (by kernel_rfl) (by kernel_rfl) (door_met os _)) ?_
  intro W base args ds gs before hval0 hW _ _ hL _
  have hval : ∀ (j : Nat) t v, Tryd.f3.params[j]? = some t → args[j]? = some v → Value.okWide Tryd.prog W .any base t v := hval0
  have hW' := hW
  obtain ⟨p, q, hA0, hV, rfl, hfz, hnd⟩ := hW
  have hA : DataW.TrodAll enc Tryd.prog W 0 (fun _ => true) true Tryd.f3.params.toList args.toList ds p := hA0
  rw [Tryd.params3] at hA hval
  have hA1 := hA
  obtain ⟨v0, vs0, d0, ds0, p0, q0, hargs, rfl, rfl, h0, r0⟩ := trodAll_cons hA
  obtain ⟨rfl, rfl, rfl⟩ := trodAll_nil r0
  obtain rfl : args = #[v0] := by cases args; simp_all
  obtain ⟨rfl, rfl⟩ := trodVars_none hV
  obtain ⟨n0, z0, rd0, wf0⟩ := open_i64s 1 Tryd.underlying22 (by kernel_rfl) (by decide) (by kernel_rfl) (hval 0 22 v0 rfl rfl) h0
  clear hA0 hval0
  simp only [List.append_nil] at hW' hA1
  refine (walk W (tabs_of hL) v0 n0 z0 rd0 wf0).mono fun e W' ⟨he, hb⟩ => ?_
  subst he
  exact ⟨_, rfl, ⟨_, _, _, [], _, [], hW', trodAll_mk1 (shut_bool Tryd.underlying4 _), below_args laidOut hb (by kernel_rfl) hA1 (fun x hx => by simpa using hW'.lt x hx), rfl, hb.frame _, fun h => by cases h⟩⟩

theorem said : Rows.SetOfSaid :=
  OpenClaim.holds_of_wide 3 Tryd.f3 rfl rfl rfl rfl rfl rfl rfl ⟨rfl, rfl, rfl, rfl, rfl⟩ rfl rfl rfl rfl rfl (by kernel_rfl) Tryd.func3 (by kernel_rfl)
    (of_decide_eq_true (by kernel_rfl)) (by unfold Func.isWrapper; first | (rw [if_pos (by decide +kernel)]; kernel_rfl) | (rw [if_neg (by decide +kernel)]; exact ⟨rfl, rfl⟩))
    (fun os started H enc _ => lifted os started H enc)

theorem proved : Rows.SetOfCardSaid :=
  Claim7.holds_tied_plain_at .later [] [.data] true Rows.setOfCard.stood.harness false
    said (fun _ h => by cases h) (by kernel_rfl) (fun _ h => by cases h) setOf_row_tie rfl ⟨rfl, rfl⟩ (by kernel_rfl) rfl
    (fun f fn hf hfn => by
      obtain rfl : f = 3 := Option.some.inj ((show Tryd.prog.funcNamed "warrener/warrenerlaw04.SetOf" = some 3 by kernel_rfl).symm.trans hf) |>.symm
      obtain rfl : fn = Tryd.f3 := (Option.some.inj (Tryd.func3.symm.trans hfn)).symm
      exact ⟨by kernel_rfl, fun j t ht => by
        have hm : t ∈ Tryd.f3.params := Array.mem_of_getElem? ht
        have hall : (Tryd.f3.params.all fun u => !Tryd.prog.wantsStandIn u) = true := by kernel_rfl
        have := Array.all_eq_true_iff_forall_mem.1 hall t hm
        exact (show Tryd.prog.wantsStandIn t = false by simpa using this)⟩)
    (by kernel_rfl)
end
end Go.Proofs.YtpggdafhpdipjaaDoor.setOf
