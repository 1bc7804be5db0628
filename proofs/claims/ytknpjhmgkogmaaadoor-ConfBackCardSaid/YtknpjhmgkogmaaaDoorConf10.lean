/-
  What words are parsed as has these words for its line.
-/
import Derived.Test.YtknpjhmgkogmaaaDoorConf8
set_option linter.unusedVariables false
namespace Go.Proofs.YtknpjhmgkogmaaaDoor.Line
open Go.RowKit Go.Sort Go.Proofs.YtknpjhmgkogmaaaDoor.Own Go.Proofs.YtknpjhmgkogmaaaDoor.Conv Go.Proofs.YtknpjhmgkogmaaaDoor.Calm Go.Proofs.YtknpjhmgkogmaaaDoor.Oct

theorem cells5 {w : World} {b : Nat} {x0 x1 x2 x3 x4 : Value} {t : TypeId} (h : Box w b #[x0, x1, x2, x3, x4] t) : w.cell? ⟨b, 0, none⟩ = some x0 ∧ w.cell? ⟨b, 1, none⟩ = some x1 ∧ w.cell? ⟨b, 2, none⟩ = some x2 ∧ w.cell? ⟨b, 3, none⟩ = some x3 ∧ w.cell? ⟨b, 4, none⟩ = some x4 := ⟨h.cell 0, h.cell 1, h.cell 2, h.cell 3, h.cell 4⟩
theorem cells3 {w : World} {b : Nat} {x0 x1 x2 : Value} {t : TypeId} (h : Box w b #[x0, x1, x2] t) : w.cell? ⟨b, 0, none⟩ = some x0 ∧ w.cell? ⟨b, 1, none⟩ = some x1 ∧ w.cell? ⟨b, 2, none⟩ = some x2 := ⟨h.cell 0, h.cell 1, h.cell 2⟩
theorem kw5 {w : World} {b : Nat} {x0 x1 x2 x3 x4 : Value} {t : TypeId} (h : Box w b #[x0, x1, x2, x3, x4] t) : (∀ p : KW w, p.w.cell? ⟨b, 0, none⟩ = some x0) ∧ (∀ p : KW w, p.w.cell? ⟨b, 1, none⟩ = some x1) ∧ (∀ p : KW w, p.w.cell? ⟨b, 2, none⟩ = some x2) ∧ (∀ p : KW w, p.w.cell? ⟨b, 3, none⟩ = some x3) ∧ (∀ p : KW w, p.w.cell? ⟨b, 4, none⟩ = some x4) :=
  ⟨KW.old (h.cell 0) h.lt, KW.old (h.cell 1) h.lt, KW.old (h.cell 2) h.lt, KW.old (h.cell 3) h.lt, KW.old (h.cell 4) h.lt⟩

theorem mk_inj {a b : List UInt8} (h : (⟨a.toArray⟩ : ByteArray) = ⟨b.toArray⟩) : a = b := by have := congrArg (fun b => b.data.toList) h; simpa using this
theorem idxFrom_get (x : List UInt8) : ∀ (names : List (List UInt8)) (i : Nat), 0 ≤ Lib.idxFromS (bs names) ⟨x.toArray⟩ i → ∃ k, Lib.idxFromS (bs names) ⟨x.toArray⟩ i = ((i + k : Nat) : Int) ∧ names.getD k [] = x
  | [], i, h => by simp [bs, Lib.idxFromS] at h
  | z :: zs, i, h => by
    have e : bs (z :: zs) = ⟨z.toArray⟩ :: bs zs := rfl
    rw [e] at h ⊢
    unfold Lib.idxFromS at h ⊢
    split
    · rename_i hz
      exact ⟨0, by simp, by simpa using mk_inj hz⟩
    · rename_i hz
      rw [if_neg hz] at h
      obtain ⟨k, h1, h2⟩ := idxFrom_get x zs (i + 1) h
      exact ⟨k + 1, by rw [h1]; omega, by simpa using h2⟩
theorem named_get {k : Nat} {x : List UInt8} {z : Int} (hn : namesAt k ≠ []) (h : fieldL k x = some z) : 0 ≤ z ∧ (namesAt k).getD z.toNat [] = x ∧ z ≤ (namesAt k).length := by
  rw [fieldL, if_neg hn] at h
  split at h
  · cases h
  · rename_i h0
    injection h with h
    obtain ⟨j, h1, h2⟩ := idxFrom_get x (namesAt k) 0 (by unfold idxL Lib.idxOfS at h0; omega)
    have h3 : idxL (namesAt k) x = (j : Int) := by rw [idxL, Lib.idxOfS, h1]; omega
    have h4 := (idxL_bd (namesAt k) x).2
    have hj : z.toNat = j := by omega
    exact ⟨by omega, by rw [hj]; exact h2, by omega⟩
theorem number_get {k : Nat} {x : List UInt8} {z : Int} (hn : namesAt k = []) (h : fieldL k x = some z) (hz : 0 ≤ z ∧ z ≤ 1048576) : Lib.itoa z = x := by
  rw [fieldL, if_pos hn] at h
  cases hx : numberL x with
  | none => rw [hx] at h; cases h
  | some n =>
    rw [hx, Option.map_some] at h
    injection h with h
    unfold clampN at h
    have : n = z := by omega
    subst this
    exact (numberL_some.1 hx).1

theorem parse_words {W : List (List UInt8)} {f0 f1 f2 f3 f4 f5 f6 f7 : Int} (hl : W.length = 8) (hf : ∀ k, k < 8 → fieldL k (W.getD k []) = some ([f0, f1, f2, f3, f4, f5, f6, f7].getD k 0))
    (h : (isCfg f0 f1 f2 f3 f4 && isAsk (f5 + 1) f6) = true) : W = confW f0 f1 f2 f3 f4 (f5 + 1) f6 (f7 == 1) := by
  rw [Bool.and_eq_true] at h
  obtain ⟨q0, q1, q2, q3, q4, q5, q6⟩ := conf_bd h.1 h.2
  match W, hl with
  | [x0, x1, x2, x3, x4, x5, x6, x7], _ =>
    have h0 := hf 0 (by omega)
    have h1 := hf 1 (by omega)
    have h2 := hf 2 (by omega)
    have h3 := hf 3 (by omega)
    have h4 := hf 4 (by omega)
    have h5 := hf 5 (by omega)
    have h6 := hf 6 (by omega)
    have h7 := hf 7 (by omega)
    simp only [List.getD_cons_succ, List.getD_cons_zero] at h0 h1 h2 h3 h4 h5 h6 h7
    have e0 := (named_get (by decide) h0).2.1
    have e1 := (named_get (by decide) h1).2.1
    have e5 := (named_get (by decide) h5).2.1
    have e7 := named_get (by decide) h7
    have e2 := number_get rfl h2 (by omega)
    have e3 := number_get rfl h3 (by omega)
    have e4 := number_get rfl h4 (by omega)
    have e6 := number_get rfl h6 (by omega)
    have d7 : endL.getD (if (f7 == 1) then 1 else 0) [] = x7 := by
      obtain ⟨a, b, c⟩ := e7
      have c2 : f7 ≤ 2 := c
      have : f7 = 0 ∨ f7 = 1 ∨ f7 = 2 := by omega
      rcases this with rfl | rfl | rfl
      · exact b
      · exact b
      · exfalso
        have hx : [] = x7 := b
        rw [← hx] at h7
        revert h7
        decide +kernel
    rw [confW, e2, e3, e4, e6, d7, show f5 + 1 - 1 = f5 by omega]
    have e0' : schL.getD f0.toNat [] = x0 := e0
    have e1' : ordL.getD f1.toNat [] = x1 := e1
    have e5' : modL.getD f5.toNat [] = x5 := e5
    rw [e0', e1', e5']
end Go.Proofs.YtknpjhmgkogmaaaDoor.Line
