/-
  Package asm's statements: alive.
-/
import Derived.Test.YtjpddfnkamahfaaDoorParse13
import Derived.Test.YtjpddfnkamahfaaDoorBackLaw13
import Derived.Test.YtjpddfnkamahfaaDoorRefIns
set_option linter.unusedVariables false
set_option linter.unusedSimpArgs false
namespace Go.Proofs.YtjpddfnkamahfaaDoor.Line
open Go.RowKit Go.Sort Go.Proofs.YtjpddfnkamahfaaDoor.Own Go.Proofs.YtjpddfnkamahfaaDoor.Conv Go.Proofs.YtjpddfnkamahfaaDoor.Calm Go.Proofs.YtjpddfnkamahfaaDoor.Open

def aliveR : List RowI := [⟨.slice none 0 0, 1, [1, 0, 0, 0, 0]⟩]
theorem alive_text : progT 0 0 0 aliveR = [119, 97, 114, 114, 101, 110, 101, 114, 32, 48, 32, 48, 32, 48, 10, 116, 104, 114, 101, 97, 100, 10, 104, 97, 108, 116, 10] := by decide +kernel
theorem alive_fine : progE 0 0 0 aliveR = 0 := by decide +kernel
theorem alive_nums (t k : Nat) : int64 (numAt aliveR t k) := by
  have h : ∀ z : Int, z = 0 ∨ z = 1 → int64 z := fun z h => ⟨by omega, by omega⟩
  refine h _ ?_
  unfold numAt rowAt aliveR
  match t, k with
  | 0, 0 => exact .inr rfl
  | 0, 1 => exact .inl rfl
  | 0, 2 => exact .inl rfl
  | 0, 3 => exact .inl rfl
  | 0, 4 => exact .inl rfl
  | 0, k + 5 => exact .inl (by simp)
  | t + 1, k => exact .inl (by simp)
theorem alive_run : runS ps0 (linesL (progT 0 0 0 aliveR)) = (⟨0, 0, 0, true, [[1, 0, 0, 0, 0]]⟩, 0) := by
  rw [lines_of_prog, run_prog alive_nums (fine_of alive_fine)]
  rfl
theorem alive_ins : instrL [115, 101, 116, 32, 49, 32, 45, 53] = ⟨2, 1, 0, 0, -5, 0⟩ := by
  have h : instrT 2 1 0 0 (-5) = [115, 101, 116, 32, 49, 32, 45, 53] := by decide +kernel
  have h1 : int64 1 := ⟨by omega, by omega⟩
  have h0 : int64 0 := ⟨by omega, by omega⟩
  have h5 : int64 (-5) := ⟨by omega, by omega⟩
  rw [← h]
  exact ins_back (r := 4) (s := 2) (code := 1) h1 h0 h0 h5 (by decide +kernel) (by omega) (by omega) (by omega)
theorem alive_parse (w : World) (hT : Door.Tabs w) : Calls Tryd.prog 13 #[.string ⟨#[119, 97, 114, 114, 101, 110, 101, 114, 32, 48, 32, 48, 32, 48, 10, 116, 104, 114, 101, 97, 100, 10, 104, 97, 108, 116, 10]⟩] w fun e w' => Kept No w w' ∧ ∃ a c, e = .returned (.tuple #[.agg #[.int .i64 0, .int .i64 0, .int .i64 0, .slice a 1 c], .int .i64 3, .int .i64 0]) := by
  have h0 : int64 0 := ⟨by omega, by omega⟩
  have h1 : int64 1 := ⟨by omega, by omega⟩
  have h := asmparse_is (progT 0 0 0 aliveR) (by rw [alive_text]; decide) _ alive_run rfl (by
    intro xs hx z hz
    simp only [List.mem_singleton] at hx
    subst hx
    simp only [List.mem_cons, List.not_mem_nil, or_false] at hz
    rcases hz with rfl | rfl | rfl | rfl | rfl
    · exact h1
    all_goals exact h0) h0 h0 (fun hds hl => by
    match hds, hl with
    | [hd], _ =>
      have e : rowsOf [hd] [[1, 0, 0, 0, 0]] = [⟨hd, 1, [1, 0, 0, 0, 0]⟩] := rfl
      show progE 0 0 0 (rowsOf [hd] [[1, 0, 0, 0, 0]]) = 0
      rw [e]
      exact (show progE 0 0 0 [⟨hd, 1, [1, 0, 0, 0, 0]⟩] = progE 0 0 0 aliveR from rfl).trans alive_fine) w hT
  have hl : (linesL (progT 0 0 0 aliveR)).length = 3 := by rw [lines_of_prog]; rfl
  rw [hl, alive_text] at h
  refine h.mono ?_
  rintro e w' ⟨hk, v, hds, hlen, rfl, hp⟩
  obtain ⟨-, ao, cap, hv, -, -, -, -⟩ := hp.rd
  rw [rowsOf_len hlen] at hv
  subst hv
  exact ⟨hk, ao, cap, rfl⟩

set_option maxRecDepth 100000 in
set_option maxHeartbeats 4000000 in
theorem alive_is (w : World) (hT : Door.Tabs w) : Calls Tryd.prog 6 #[] w fun e w' => e = .returned (.bool true) ∧ Kept No w w' := by
  have HT := Lib.hid hT
  have hI := fun w hT => asminstr_is [115, 101, 116, 32, 49, 32, 45, 53] (by decide) w hT
  rw [alive_ins] at hI
  have HI := Lib.hid hI
  clear hI hT
  go_enter Tryd.func6, Tryd.ntmps6
  go_wp2_with fail
  refine (alive_parse w HT.out).mono ?_
  rintro e w1 ⟨k1, a, c, rfl⟩
  have K1 := Lib.hid k1
  clear k1
  go_upto_region 2 with fail
  have hb := Lib.hid (Box.new w1 #[.int .i64 0, .int .i64 0, .int .i64 0, .slice a 1 c] 32)
  have hk := Lib.hid (K1.out.alloc (.cells #[.int .i64 0, .int .i64 0, .int .i64 0, .slice a 1 c] 32))
  generalize w1.alloc (.cells #[.int .i64 0, .int .i64 0, .int .i64 0, .slice a 1 c] 32) = w2 at *
  go_wp2_with fail
  refine (HI.out w2 (HT.out.kept hk.out)).mono ?_
  rintro e w3 ⟨rfl, k3⟩
  have hb3 := hb.out.kept k3 id
  have hk3 := hk.out.trans k3 (fun _ _ f => f)
  unfold insV insC
  have c3 := (hb3.alloc (.cells #[.int .i64 2, .int .i64 1, .int .i64 0, .int .i64 0, .int .i64 (-5)] 25)).cell 3
  simp only [List.getElem?_toArray, List.getElem?_cons_zero, List.getElem?_cons_succ] at c3
  have HK3 := Lib.hid (hk3.alloc (.cells #[.int .i64 2, .int .i64 1, .int .i64 0, .int .i64 0, .int .i64 (-5)] 25))
  clear hb3 hk3 k3
  go_wp2_with fail
  go_ret
  exact ⟨rfl, HK3.out⟩
end Go.Proofs.YtjpddfnkamahfaaDoor.Line
