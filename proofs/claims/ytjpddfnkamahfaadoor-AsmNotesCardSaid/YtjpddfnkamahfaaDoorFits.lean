/-
  An instruction that may be: each operand as its letter tells.
-/
import Derived.Test.YtjpddfnkamahfaaDoorShow2
import Derived.Test.YtjpddfnkamahfaaDoorCalm
import Derived.BigQuiet
set_option linter.unusedVariables false
namespace Go.Proofs.YtjpddfnkamahfaaDoor.Line
open Go.RowKit Go.Sort Go.Proofs.YtjpddfnkamahfaaDoor.Own Go.Proofs.YtjpddfnkamahfaaDoor.Conv Go.Proofs.YtjpddfnkamahfaaDoor.Calm

/-- How great an operand may be. -/
def mostZ (ch r s code : Int) : Int := if ch = 114 then 3 else if ch = 103 then max r 0 - 1 else if ch = 115 then max s 0 - 1 else if ch = 102 then 1 else if ch = 116 then code else 0
/-- Is an operand as its letter tells? -/
def fitB (ch n r s code : Int) : Bool := ch == 110 || (decide (0 ≤ n) && decide (n ≤ mostZ ch r s code))
/-- The letters. -/
def letterB (ch : Int) : Bool := ch == 110 || ch == 114 || ch == 103 || ch == 115 || ch == 102 || ch == 116 || ch == 45
theorem letters_all : (kindL.all fun p => p.2.all fun x => letterB x.toNat) = true := by decide +kernel
theorem shape_letter (z : Int) (k : Nat) (x : UInt8) (h : (shapeZ z)[k]? = some x) : letterB x.toNat = true := by
  unfold shapeZ at h
  split at h
  · unfold shapeK at h
    rcases hk : kindL[z.toNat]? with _ | p
    · rw [hk] at h; simp at h
    · rw [hk] at h
      have h1 := List.all_eq_true.1 letters_all p (List.mem_of_getElem? hk)
      exact List.all_eq_true.1 h1 x (List.mem_of_getElem? h)
  · simp at h

set_option maxRecDepth 100000 in
set_option maxHeartbeats 4000000 in
theorem fits_is (ch n r c s code : Int) (u : Value) (hr : int64 r) (hs : int64 s) (hch : letterB ch = true) (w : World) :
    Calls Tryd.prog 60 #[.int .u8 ch, .int .i64 n, .agg #[.int .i64 r, .int .i64 c, .int .i64 s, u], .int .i64 code] w fun e w' => e = .returned (.bool (fitB ch n r s code)) ∧ Kept No w w' := by
  have hch2 : ch = 110 ∨ ch = 114 ∨ ch = 103 ∨ ch = 115 ∨ ch = 102 ∨ ch = 116 ∨ ch = 45 := by
    simp only [letterB, Bool.or_eq_true, beq_iff_eq] at hch
    omega
  clear hch
  obtain ⟨r0, r1⟩ := hr
  obtain ⟨s0, s1⟩ := hs
  rcases hch2 with rfl | rfl | rfl | rfl | rfl | rfl | rfl
  · go_enter Tryd.func60, Tryd.ntmps60
    go_wp2_with fail
    go_ret
    exact ⟨rfl, (Kept.refl _ _).alloc _⟩
  all_goals
    unfold fitB mostZ
    by_cases hn : 0 ≤ n
    · have dn : decide (0 ≤ n) = true := decide_eq_true hn
      rw [dn]
      clear hn
      go_enter Tryd.func60, Tryd.ntmps60
      go_wp2_with fail
      go_ret
      exact ⟨by simp, (Kept.refl _ _).alloc _⟩
    · have dn : decide (0 ≤ n) = false := decide_eq_false hn
      rw [dn]
      clear hn
      go_enter Tryd.func60, Tryd.ntmps60
      go_wp2_with fail
      go_ret
      exact ⟨by simp, (Kept.refl _ _).alloc _⟩

set_option maxRecDepth 100000 in
set_option maxHeartbeats 4000000 in
theorem most_is (ch r c s code : Int) (u : Value) (hr : int64 r) (hs : int64 s) (hch : letterB ch = true) (w : World) :
    Calls Tryd.prog 44 #[.int .u8 ch, .agg #[.int .i64 r, .int .i64 c, .int .i64 s, u], .int .i64 code] w fun e w' => e = .returned (.int .i64 (mostZ ch r s code)) ∧ Kept No w w' := by
  have hch2 : ch = 110 ∨ ch = 114 ∨ ch = 103 ∨ ch = 115 ∨ ch = 102 ∨ ch = 116 ∨ ch = 45 := by
    simp only [letterB, Bool.or_eq_true, beq_iff_eq] at hch
    omega
  clear hch
  obtain ⟨r0, r1⟩ := hr
  obtain ⟨s0, s1⟩ := hs
  rcases hch2 with rfl | rfl | rfl | rfl | rfl | rfl | rfl
  all_goals
    unfold mostZ
    go_enter Tryd.func44, Tryd.ntmps44
    go_wp2_with fail
    go_ret
    exact ⟨by simp, (Kept.refl _ _).alloc _⟩
end Go.Proofs.YtjpddfnkamahfaaDoor.Line
