/-
  slices.ContainsFunc over a program's threads.
-/
import Derived.Test.YtjpddfnkamahfaaDoorLay12
set_option linter.unusedVariables false
namespace Go.Proofs.YtjpddfnkamahfaaDoor.Line
open Go.RowKit Go.Sort Go.Proofs.YtjpddfnkamahfaaDoor.Own Go.Proofs.YtjpddfnkamahfaaDoor.Conv Go.Proofs.YtjpddfnkamahfaaDoor.Calm Go.Proofs.YtjpddfnkamahfaaDoor.Open

theorem toolong_is (ao : Option Addr) (m cap : Nat) (w : World) :
    Calls Tryd.prog 50 #[.slice ao m cap] w fun e w' => e = .returned (.bool (decide (16 < m))) ∧ w' = w := by
  go_enter Tryd.func50, Tryd.ntmps50
  go_wp2_with fail
  go_ret
  refine ⟨congrArg (fun b => Ending.returned (Value.bool b)) ?_, rfl⟩
  by_cases h : 16 < m
  · have : (16 : Int) < m := by omega
    simp [h, this]
  · have : ¬ (16 : Int) < m := by omega
    simp only [h, decide_false, decide_eq_false_iff_not]
    omega

set_option maxHeartbeats 2000000 in
theorem indexlong_is (ao : Option Addr) (n cap : Nat) (rows : List RowI) (w : World) (h : PR w (.slice ao n cap) rows) :
    Calls Tryd.prog 59 #[.slice ao n cap, .func (.func 50) #[] #[]] w fun e w' => (∃ i : Int, e = .returned (.int .i64 i) ∧ ((i = -1 ∧ ∀ t, t < rows.length → lenAt rows t ≤ 16) ∨ (∃ t : Nat, i = t ∧ t < rows.length ∧ 16 < lenAt rows t))) ∧ Kept No w w' := by
  obtain ⟨hn, hc, hm⟩ := h.len
  unfold maxLen at hm
  have hn1 : n ≤ rows.length := by omega
  have hn2 : rows.length ≤ n := by omega
  have H := Lib.hid h
  clear hn h
  go_enter Tryd.func59, Tryd.ntmps59
  go_wp2_with fail
  go_loopw [8] (fun i wr => ∃ k : Nat, k ≤ n ∧ i = .int .i64 k ∧ Hid (∀ t, t < k → lenAt rows t ≤ 16) ∧ Kept No w wr) (fun i _ => n - (intOf i).toNat)
  case atStart => exact ⟨0, by omega, rfl, Lib.hid (fun t ht => by omega), Kept.refl _ _⟩
  case round =>
    obtain ⟨k, hk, rfl, hall, hK⟩ := hrel
    by_cases hlt : k < n
    · have hp := H.out.kept hK
      obtain ⟨g, o, rfl, hg, hcell⟩ := hp.head (t := k) (by omega)
      obtain ⟨a2, c2, hv, h1, h2, _⟩ := hp.thread (t := k) (by omega)
      rw [hv] at hcell
      clear hp hv
      generalize hL : lenAt rows k = m at *
      unfold maxLen at h2
      have HL := Lib.hid hL
      clear hL
      go_upto_region 4 with fail
      go_wp2_with fail
      refine (toolong_is _ m _ _).mono ?_
      rintro e w' ⟨rfl, rfl⟩
      clear hcell
      by_cases h16 : 16 < m
      · rw [decide_eq_true h16]
        have HL2 : Hid (16 < lenAt rows k) := Lib.hid (by rw [HL.out]; exact h16)
        clear h16
        go_wp2_with fail
        go_ret
        exact ⟨⟨_, rfl, .inr ⟨k, rfl, by omega, HL2.out⟩⟩, hK⟩
      · rw [decide_eq_false h16]
        have HL2 : Hid (lenAt rows k ≤ 16) := Lib.hid (by rw [HL.out]; omega)
        clear h16
        go_wp2_with fail
        go_roundw
        case rel => exact ⟨k + 1, by omega, by go_num, Lib.hid (fun q hq => (Nat.lt_succ_iff_lt_or_eq.1 hq).elim (fun h => hall.out q h) (fun h => h ▸ HL2.out)), hK⟩
        case measure => simp [intOf]; omega
    · obtain rfl : k = n := by omega
      go_wp2_with fail
      go_ret
      exact ⟨⟨-1, rfl, .inl ⟨rfl, fun t ht => hall.out t (by omega)⟩⟩, hK⟩

theorem anylong_is (ao : Option Addr) (n cap : Nat) (rows : List RowI) (w : World) (h : PR w (.slice ao n cap) rows) :
    Calls Tryd.prog 49 #[.slice ao n cap, .func (.func 50) #[] #[]] w fun e w' => (∃ b : Bool, e = .returned (.bool b) ∧ ((b = false ∧ ∀ t, t < rows.length → lenAt rows t ≤ 16) ∨ (b = true ∧ ∃ t : Nat, t < rows.length ∧ 16 < lenAt rows t))) ∧ Kept No w w' := by
  go_enter Tryd.func49, Tryd.ntmps49
  go_wp2_with fail
  refine (indexlong_is ao n cap rows w h).mono ?_
  rintro e w1 ⟨⟨i, rfl, hi⟩, k1⟩
  rcases hi with ⟨rfl, hall⟩ | ⟨t, rfl, ht, hl⟩
  · go_wp2_with fail
    go_ret
    exact ⟨⟨_, rfl, .inl ⟨rfl, hall⟩⟩, k1⟩
  · have h0 : (0 : Int) ≤ t := by omega
    go_wp2_with fail
    go_ret
    exact ⟨⟨_, rfl, .inr ⟨by simp, t, ht, hl⟩⟩, k1⟩
end Go.Proofs.YtjpddfnkamahfaaDoor.Line
