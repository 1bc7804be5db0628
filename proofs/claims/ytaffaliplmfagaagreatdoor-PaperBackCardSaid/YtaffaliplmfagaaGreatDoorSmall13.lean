/-
  lines.Small.
-/
import Derived.Test.YtaffaliplmfagaaGreatDoorNumB
set_option linter.unusedVariables false
set_option linter.unusedSimpArgs false
namespace Go.Proofs.YtaffaliplmfagaaGreatDoor.Line
open Go.RowKit Go.Sort Go.Proofs.YtaffaliplmfagaaGreatDoor.Own Go.Proofs.YtaffaliplmfagaaGreatDoor.Conv

set_option maxHeartbeats 2000000 in
theorem small_is (l : List UInt8) (hl : l.length ≤ 1000000) (m : Int) (w : World) (hT : Door.Tabs w) :
    Calls Tryz.prog 52 #[.string ⟨l.toArray⟩, .int .i64 m] w fun e w' => e = .returned (.tuple #[.int .i64 ((smallL l m).getD 0), .bool (smallL l m).isSome]) ∧ Kept No w w' := by
  go_enter Tryz.func52, Tryz.ntmps52
  go_wp2_with fail
  refine (number_is l hl w hT).mono ?_
  rintro e w1 ⟨rfl, hk⟩
  have hsm : smallL l m = match numberL l with | some v => if 0 ≤ v ∧ v ≤ m then some v else none | none => none := rfl
  cases hn : numberL l with
  | none =>
    rw [hn] at hsm
    have Hsm := Lib.hid hsm
    clear hsm hn
    simp only [Option.getD_none, Option.isSome_none]
    go_wp2_with fail
    go_ret2
    rw [Hsm.out]
    exact ⟨rfl, hk⟩
  | some v =>
    rw [hn] at hsm
    simp only at hsm
    obtain ⟨_, hv0, hv1⟩ := numberL_some.1 hn
    simp only [Option.getD_some, Option.isSome_some]
    by_cases h0 : 0 ≤ v
    · by_cases h1 : v ≤ m
      · rw [if_pos ⟨h0, h1⟩] at hsm
        have Hsm := Lib.hid hsm
        have hw : wrap64 v = v := by unfold wrap64; omega
        clear hsm hn
        go_wp2_with fail
        go_ret2
        rw [Hsm.out]
        exact ⟨rfl, hk⟩
      · rw [if_neg (fun h => h1 h.2)] at hsm
        have Hsm := Lib.hid hsm
        clear hsm hn
        go_wp2_with fail
        go_ret2
        rw [Hsm.out]
        exact ⟨rfl, hk⟩
    · rw [if_neg (fun h => h0 h.1)] at hsm
      have Hsm := Lib.hid hsm
      clear hsm hn
      go_wp2_with fail
      go_ret2
      rw [Hsm.out]
      exact ⟨rfl, hk⟩
end Go.Proofs.YtaffaliplmfagaaGreatDoor.Line
