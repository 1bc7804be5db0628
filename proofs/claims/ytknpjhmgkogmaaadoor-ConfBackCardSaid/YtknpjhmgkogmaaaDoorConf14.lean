/-
  A config and an ask behind their octets; a line with blanks around it.
-/
import Derived.Test.YtknpjhmgkogmaaaDoorConf13
import Derived.Test.YtknpjhmgkogmaaaDoorRefDec
import Derived.Test.YtknpjhmgkogmaaaDoorConf8
set_option linter.unusedVariables false
namespace Go.Proofs.YtknpjhmgkogmaaaDoor.Line
open Go.RowKit Go.Sort Go.Proofs.YtknpjhmgkogmaaaDoor.Own Go.Proofs.YtknpjhmgkogmaaaDoor.Conv Go.Proofs.YtknpjhmgkogmaaaDoor.Calm Go.Proofs.YtknpjhmgkogmaaaDoor.Oct

theorem beN_beB (z : Int) (h : 0 ≤ z ∧ z < 16777216) : ((beN (beB z.toNat 3) : Nat) : Int) = z := by
  simp [beN, beB, List.range_succ]
  omega
theorem beB_three (n : Nat) : ∃ x y z, beB n 3 = [x, y, z] ∧ Octs [x, y, z] := by
  refine ⟨_, _, _, by simp only [beB, List.range_succ, List.range_zero, List.nil_append, List.cons_append, List.map_cons, List.map_nil]; rfl, ?_⟩
  intro c hc
  simp only [List.mem_cons, List.not_mem_nil, or_false] at hc
  rcases hc with rfl | rfl | rfl <;> omega
theorem beN_one (c : Int) (h : 0 ≤ c) : ((beN [c] : Nat) : Int) = c := by simp [beN]; omega

theorem get_put {sc od th fu de mo bu : Int} (h1 : isCfg sc od th fu de = true) (h2 : isAsk mo bu = true) (st : Bool) {b : List Int} (hb : putL sc od th fu de mo bu st = b) :
    Octs b ∧ b.length = 10 ∧ getW b = (10, 0) ∧ (gV b 0 = sc ∧ gV b 1 = od ∧ gV b 2 = th ∧ gV b 3 = fu ∧ gV b 4 = de ∧ gV b 5 = mo ∧ gV b 6 = bu) ∧ (b.getD 9 0 == 1) = st := by
  obtain ⟨q0, q1, q2, q3, q4, q5, q6⟩ := conf_bd h1 h2
  rw [putL_eq h1 h2] at hb
  obtain ⟨x, y, z, e, ho⟩ := beB_three bu.toNat
  have hn := beN_beB bu (by omega)
  rw [e] at hb hn
  have hx := ho x (by simp)
  have hy := ho y (by simp)
  have hz := ho z (by simp)
  obtain ⟨s, hs⟩ : ∃ s : Int, (if st then (1 : Int) else 0) = s := ⟨_, rfl⟩
  rw [hs] at hb
  have hs01 : s = 0 ∨ s = 1 := by rw [← hs]; cases st <;> simp
  subst hb
  have g : gV ([sc, od, th, fu, de, mo] ++ [x, y, z] ++ [s]) 0 = sc ∧ gV ([sc, od, th, fu, de, mo] ++ [x, y, z] ++ [s]) 1 = od ∧ gV ([sc, od, th, fu, de, mo] ++ [x, y, z] ++ [s]) 2 = th ∧ gV ([sc, od, th, fu, de, mo] ++ [x, y, z] ++ [s]) 3 = fu ∧ gV ([sc, od, th, fu, de, mo] ++ [x, y, z] ++ [s]) 4 = de ∧ gV ([sc, od, th, fu, de, mo] ++ [x, y, z] ++ [s]) 5 = mo ∧ gV ([sc, od, th, fu, de, mo] ++ [x, y, z] ++ [s]) 6 = bu :=
    ⟨beN_one sc q0.1, beN_one od q1.1, beN_one th (by omega), beN_one fu q3.1, beN_one de (by omega), beN_one mo (by omega), hn⟩
  obtain ⟨b, hb⟩ : ∃ b, [sc, od, th, fu, de, mo] ++ [x, y, z] ++ [s] = b := ⟨_, rfl⟩
  have hlen : b.length = 10 := by rw [← hb]; rfl
  have h9 : b.getD 9 0 = s := by rw [← hb]; rfl
  have hoc : Octs b := by
    rw [← hb]
    intro c hc
    simp only [List.mem_append, List.mem_cons, List.not_mem_nil, or_false] at hc
    rcases hc with ((rfl | rfl | rfl | rfl | rfl | rfl) | (rfl | rfl | rfl)) | rfl <;> omega
  rw [hb] at g ⊢
  refine ⟨hoc, hlen, ?_, g, ?_⟩
  · obtain ⟨g0, g1, g2, g3, g4, g5, g6⟩ := g
    have st1 : ∀ k, k < 7 → getF b k (7 - k) = getF b (k + 1) (7 - (k + 1)) := by
      intro k hk
      rw [getF_step b k (7 - k) (by omega), Nat.sub_sub]
      have hf := fW_le k
      rw [if_neg, if_neg]
      · rcases seven hk with rfl | rfl | rfl | rfl | rfl | rfl | rfl
        · rw [g0]; simp [fLo, fHi]; omega
        · rw [g1]; simp [fLo, fHi]; omega
        · rw [g2]; simp [fLo, fHi]; omega
        · rw [g3]; simp [fLo, fHi]; omega
        · rw [g4]; simp [fLo, fHi]; omega
        · rw [g5]; simp [fLo, fHi]; omega
        · rw [g6]; simp [fLo, fHi]; omega
      · rw [hlen]
        rcases seven hk with rfl | rfl | rfl | rfl | rfl | rfl | rfl <;> decide
    have e0 : getW b = getF b 7 0 := by
      unfold getW
      rw [st1 0 (by omega), st1 1 (by omega), st1 2 (by omega), st1 3 (by omega), st1 4 (by omega), st1 5 (by omega), st1 6 (by omega)]
    rw [e0]
    unfold getF
    rw [if_neg (by rw [h9]; omega), if_neg (by omega)]
  · rw [h9, ← hs]
    cases st <;> rfl

theorem pieces_ne (c : UInt8) : ∀ l, pieces c l ≠ []
  | [] => by simp [pieces]
  | b :: r => by
    unfold pieces
    split
    · simp
    · split <;> simp
theorem pieces_end (c : UInt8) : ∀ l, pieces c (l ++ [c]) = pieces c l ++ [[]]
  | [] => by simp [pieces]
  | b :: r => by
    have ih := pieces_end c r
    rw [List.cons_append]
    unfold pieces
    split
    · rw [ih]; rfl
    · rw [ih]
      cases hp : pieces c r with
      | nil => exact absurd hp (pieces_ne c r)
      | cons p ps => rfl
theorem words_pad (l : List UInt8) : wordsL ([32] ++ l ++ [32]) = wordsL l := by
  have h1 : wordsL ([32] ++ l ++ [32]) = wordsL (l ++ [32]) := by
    have := words_hit [] (l ++ [32]) (by simp)
    simpa using this
  rw [h1, wordsL, pieces_end, List.filter_append]
  simp [wordsL]
end Go.Proofs.YtknpjhmgkogmaaaDoor.Line
