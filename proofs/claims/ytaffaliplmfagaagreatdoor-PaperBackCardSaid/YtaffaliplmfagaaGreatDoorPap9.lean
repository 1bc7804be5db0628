/-
  The statements' first look.
-/
import Derived.Test.YtaffaliplmfagaaGreatDoorPap8
import Derived.BigQuiet
set_option linter.unusedVariables false
set_option linter.unusedSimpArgs false
namespace Go.Proofs.YtaffaliplmfagaaGreatDoor.Line
open Go.RowKit Go.Sort Go.Proofs.YtaffaliplmfagaaGreatDoor.Own Go.Proofs.YtaffaliplmfagaaGreatDoor.Conv Go.Proofs.YtaffaliplmfagaaGreatDoor.Calm Go.Proofs.YtaffaliplmfagaaGreatDoor.Oct

def one (v : Value) (n : Nat) : List FoundI := [⟨5, 1, 2, v, n, [0, 1]⟩]
theorem ok_one (v : Value) (n : Nat) : okR 2 5 (one v n) = true := by kernel_rfl
theorem text_one (v : Value) (n : Nat) : textR 2 5 (one v n) = [118, 105, 111, 108, 97, 116, 105, 111, 110, 32, 53, 10, 119, 105, 108, 100, 32, 49, 32, 50, 10, 48, 32, 49, 10] := by
  show headR 2 5 ++ [10] ++ ((keyT 5 1 2 ++ [10] ++ (picksT [0, 1] ++ [10])) ++ []) = _
  decide +kernel
theorem octs_one (v : Value) (n : Nat) : octR 2 5 (one v n) = [82, 2, 0, 0, 0, 0, 0, 5, 1, 5, 1, 2, 0, 2, 0, 1] := by
  show octH 2 5 1 ++ ((pre3 5 1 2 3 ++ (beB 2 2 ++ [0, 1])) ++ []) = _
  decide +kernel
def bs1 : List Int := [82, 2, 0, 0, 0, 0, 0, 5, 1, 5, 1, 2, 0, 2, 0, 1]
theorem wrong_one : wrongP bs1 = (16, 0) := by decide +kernel
theorem got_one : gotF bs1 9 (beN ((bs1.drop 8).take 1)) = [((5, 1, 2), [0, 1])] := by decide +kernel
theorem vd_one : vdG bs1 = 2 := by decide +kernel
theorem ed_one : edG bs1 = 5 := by decide +kernel
theorem one_of {fs : List FoundI} (h : fs.map keyF = [((5, 1, 2), [0, 1])]) : ∃ v n, fs = one v n := by
  match fs, h with
  | [], h => cases h
  | _ :: _ :: _, h => simp at h
  | [f], h =>
    obtain ⟨k, i, j, v, n, zs⟩ := f
    simp only [List.map_cons, List.map_nil, keyF, List.cons.injEq, Prod.mk.injEq, and_true] at h
    obtain ⟨⟨rfl, rfl, rfl⟩, rfl⟩ := h
    exact ⟨v, n, rfl⟩
theorem sm_one (v : Value) (n : Nat) : SmR (one v n) := ⟨by simp [one], fun t f h => by
  have := List.mem_of_getElem? h
  rw [one, List.mem_singleton] at this
  subst this
  simp⟩
theorem text_some (b2 : Nat) (g : Nat) (w : World) (hT : Door.Tabs w) (h : FR w (.slice (some ⟨g, 0, none⟩) 1 1) (one (.slice (some ⟨b2, 0, none⟩) 2 2) 2)) :
    Calls Tryz.prog 14 #[.agg #[.int .i64 2, .int .i64 5, .slice (some ⟨g, 0, none⟩) 1 1]] w fun e w' => e = .returned (.tuple #[.string ⟨#[118, 105, 111, 108, 97, 116, 105, 111, 110, 32, 53, 10, 119, 105, 108, 100, 32, 49, 32, 50, 10, 48, 32, 49, 10]⟩, .int .i64 0]) ∧ Kept No w w' := by
  refine (papertext_is 2 5 _ 1 1 _ w hT h (sm_one _ _)).mono ?_
  rintro e w' ⟨hk, ⟨h0, _⟩ | ⟨_, rfl⟩⟩
  · rw [ok_one] at h0; cases h0
  · rw [text_one]
    exact ⟨rfl, hk⟩
theorem put_some (b2 : Nat) (g : Nat) (w : World) (h : FR w (.slice (some ⟨g, 0, none⟩) 1 1) (one (.slice (some ⟨b2, 0, none⟩) 2 2) 2)) :
    Calls Tryz.prog 16 #[.agg #[.int .i64 2, .int .i64 5, .slice (some ⟨g, 0, none⟩) 1 1]] w fun e w' => Kept No w w' ∧ ∃ x o c, e = .returned (.tuple #[.slice (some ⟨x, o, none⟩) 16 c, .int .i64 0]) ∧ Rd w' 1 (.slice (some ⟨x, o, none⟩) 16 c) 16 (bv bs1) := by
  refine (paperput_is 2 5 _ 1 1 _ w h (by rw [octs_one]; decide)).mono ?_
  rintro e w' ⟨hk, ⟨h0, _⟩ | ⟨_, v, rfl, hs⟩⟩
  · rw [ok_one] at h0; cases h0
  · rw [octs_one] at hs
    have hr := hs.rd
    obtain ⟨-, ao, c, rfl, -, -, -, hc⟩ := id hr
    obtain ⟨x, o, rfl, -, -⟩ := hc (by simp)
    exact ⟨hk, x, o, c, rfl, hr⟩
theorem get_one (x o c : Nat) (w : World) (h : Rd w 1 (.slice (some ⟨x, o, none⟩) 16 c) 16 (bv bs1)) :
    Calls Tryz.prog 10 #[.slice (some ⟨x, o, none⟩) 16 c] w fun e w' => Kept No w w' ∧ ∃ ao cap v n, e = .returned (.tuple #[.agg #[.int .i64 2, .int .i64 5, .slice ao 1 cap], .int .i64 16, .int .i64 0]) ∧ FR w' (.slice ao 1 cap) (one v n) := by
  refine (paperget_is x o 16 c bs1 w h (by unfold Octs; decide) (by omega) (by omega)).mono ?_
  rintro e w' ⟨hk, ⟨h0, _⟩ | ⟨_, _, fs, hfs, hor⟩⟩
  · rw [wrong_one] at h0; exact absurd rfl h0
  · rw [got_one] at hfs
    obtain ⟨v, n, rfl⟩ := one_of hfs
    rw [vd_one, ed_one, ok_one] at hor
    rcases hor with ⟨h1, _⟩ | ⟨_, ao, cap, rfl, hf⟩
    · cases h1
    · exact ⟨hk, ao, cap, v, n, rfl, hf⟩

/-- An operation that is no read, under a guard that holds. -/
theorem dyn_call_g {P : Program} {Q' : Exit → Act → World → Prop} {l : List Oper} {w : World} {i : Nat} {r : List Nat} {a : Act} {o : Oper} (ho : l[i]? = some o) (hr : isRead o = false) (hg : Region.wanted o (yielded l.toArray a.tmps) = true)
    (h : ∀ p : KW w, callW P o a p.w fun v w2 => Kept No p.w w2 ∧ dyn P l.toArray Q' r (a.put o.dst v) w2) : dyn P l.toArray Q' (i :: r) a w := by
  have ho2 : l.toArray[i]? = some o := by simpa using ho
  simp only [dyn, ho2, hr, Bool.false_eq_true, if_false]
  exact fun w1 hk => .inl ⟨hg, h ⟨w1, hk⟩⟩

set_option maxRecDepth 100000 in
set_option maxHeartbeats 8000000 in
theorem alive_is (w : World) (hT : Door.Tabs w) : Calls Tryz.prog 5 #[] w fun e w' => e = .returned (.bool true) ∧ Kept No w w' := by
  have HT := Lib.hid hT
  clear hT
  go_enter Tryz.func5, Tryz.ntmps5
  go_wp2_with fail
  refine (some_is w).mono ?_
  rintro e w1 ⟨k1, b1, b2, rfl, f1⟩
  go_wp2_with fail
  refine (text_some b2 b1 w1 (HT.out.kept k1) f1).mono ?_
  rintro e w2 ⟨rfl, k2⟩
  have hk2 := k1.trans k2 (fun _ _ f => f)
  clear k1 k2 f1
  go_wp2_with fail
  refine (some_is w2).mono ?_
  rintro e w3 ⟨k3, b3, b4, rfl, f3⟩
  go_wp2_with fail
  refine (put_some b4 b3 w3 f3).mono ?_
  rintro e w4 ⟨k4, x, o, c, rfl, h4⟩
  have hk4 := (hk2.trans k3 (fun _ _ f => f)).trans k4 (fun _ _ f => f)
  clear hk2 k3 k4 f3
  go_wp2_with fail
  refine (get_one x o c w4 h4).mono ?_
  rintro e w5 ⟨k5, ao, cap, v, n, rfl, f5⟩
  have hk5 := hk4.trans k5 (fun _ _ f => f)
  clear hk4 k5 h4
  go_upto_region 4 with fail
  have hx := Box.new w5 #[.int .i64 2, .int .i64 5, .slice ao 1 cap] 24
  have hk6 := hk5.alloc (.cells #[.int .i64 2, .int .i64 5, .slice ao 1 cap] 24)
  have f6 := f5.kept ((Kept.refl No w5).alloc (.cells #[.int .i64 2, .int .i64 5, .slice ao 1 cap] 24))
  generalize w5.alloc _ = w6 at *
  generalize w5.heap.size = rb at *
  obtain ⟨x0, x1, x2⟩ := KW.box3 hx
  have F6 := Lib.hid f6
  have HK6 := Lib.hid hk6
  have HLT := Lib.hid hx.lt
  clear hx hk5 f5 f6 hk6
  refine wp_region_dyn ([0,1,2,3,4,5,6,7] ++ 8 :: ([9,10,11,12,13,14,15,16] ++ 17 :: 18 :: ([19,20,21,22,23,24,25,26,27,28] ++ []))) (by kernel_rfl) (by kernel_rfl) ?_
  refine dyn_reads _ _ (by kernel_rfl) ?_
  simp only [sel, List.filterMap_cons, List.filterMap_nil, List.getElem?_cons_succ, List.getElem?_cons_zero]
  repeat (show wpQuiet _ _ _ _ (_ :: _) _; go_big_quiet_step (fail))
  refine wpQuiet_nil ?_
  refine dyn_call_g rfl rfl rfl ?_
  intro pp
  unfold callW
  go_simp
  refine ⟨Kept.refl _ _, ?_⟩
  have F7 := Lib.hid (F6.out.kept pp.h)
  have HK7 := Lib.hid (HK6.out.trans pp.h (fun _ _ f => f))
  have x0' := KW.old (x0 pp) (Nat.lt_of_lt_of_le HLT.out pp.h.size)
  have x1' := KW.old (x1 pp) (Nat.lt_of_lt_of_le HLT.out pp.h.size)
  have x2' := KW.old (x2 pp) (Nat.lt_of_lt_of_le HLT.out pp.h.size)
  clear x0 x1 x2
  generalize pp.w = wp at *
  refine dyn_reads (rest := 17 :: 18 :: ([19,20,21,22,23,24,25,26,27,28] ++ [])) [9,10,11,12,13,14,15,16] _ (by kernel_rfl) ?_
  simp only [sel, List.filterMap_cons, List.filterMap_nil, List.getElem?_cons_succ, List.getElem?_cons_zero]
  repeat (show wpQuiet _ _ _ _ (_ :: _) _; go_big_quiet_step (fail))
  refine wpQuiet_nil ?_
  refine dyn_fn_g 15 #[] rfl rfl rfl (by intro w; go_simp) ?_
  intro p
  refine (some_is p.w).mono ?_
  rintro e w7 ⟨k7, b7, b8, rfl, f7⟩
  refine ⟨_, rfl, k7, ?_⟩
  have f8 := (F7.out.kept p.h).kept k7
  have hk7 := (HK7.out.trans p.h (fun _ _ f => f)).trans k7 (fun _ _ f => f)
  simp only [Act.put, List.setIfInBounds_toArray, List.set]
  refine dyn_fn_g 12 #[.agg #[.int .i64 2, .int .i64 5, .slice ao 1 cap], .agg #[.int .i64 2, .int .i64 5, .slice (some ⟨b7, 0, none⟩) 1 1]] rfl rfl rfl (by intro w; go_simp) ?_
  intro q
  refine (report_same q.w 2 5 _ _ _ _ (f8.kept q.h) (f7.kept q.h) rfl).mono ?_
  rintro e w9 ⟨rfl, k9⟩
  refine ⟨_, rfl, k9, ?_⟩
  have hk9 := (hk7.trans q.h (fun _ _ f => f)).trans k9 (fun _ _ f => f)
  simp only [Act.put, List.setIfInBounds_toArray, List.set]
  refine dyn_reads (rest := []) [19,20,21,22,23,24,25,26,27,28] _ (by kernel_rfl) ?_
  simp only [sel, List.filterMap_cons, List.filterMap_nil, List.getElem?_cons_succ, List.getElem?_cons_zero]
  repeat (show wpQuiet _ _ _ _ (_ :: _) _; go_big_quiet_step (fail))
  refine wpQuiet_nil ?_
  refine dyn_nil fun r => ?_
  have hk10 := hk9.trans r.h (fun _ _ f => f)
  go_wp2_with fail
  go_ret
  exact ⟨rfl, hk10⟩
end Go.Proofs.YtaffaliplmfagaaGreatDoor.Line
