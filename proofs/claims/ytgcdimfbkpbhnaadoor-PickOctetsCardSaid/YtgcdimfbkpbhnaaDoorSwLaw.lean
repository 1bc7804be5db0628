/-
  Switches of a list, plainly: without some of it there are no more.
-/
import Derived.Test.YtgcdimfbkpbhnaaDoorLive
set_option linter.unusedVariables false
namespace Go.Proofs.YtgcdimfbkpbhnaaDoor.Pick

def swN : List Int → Nat
  | [] => 0
  | [_] => 0
  | a :: b :: r => (if a ≠ b then 1 else 0) + swN (b :: r)
theorem swN_snoc : ∀ (l : List Int) (z : Int), swN (l ++ [z]) = swN l + (match l.getLast? with | none => 0 | some y => if z ≠ y then 1 else 0)
  | [], z => rfl
  | [a], z => by
    simp only [List.cons_append, List.nil_append, swN, List.getLast?_singleton]
    by_cases h : a = z
    · subst h; simp
    · rw [if_pos h, if_pos (fun e => h e.symm)]
  | a :: b :: r, z => by
    have h := swN_snoc (b :: r) z
    simp only [List.cons_append, swN, List.getLast?_cons_cons] at h ⊢
    rw [h]
    omega
theorem swK_swN (zs : List Int) : ∀ k, k ≤ zs.length → swK zs k = swN (zs.take k)
  | 0, _ => by simp [swK, swN]
  | k + 1, h => by
    have ih := swK_swN zs k (by omega)
    have e : zs.take (k + 1) = zs.take k ++ [zs[k]] := by simp
    rw [swK, ih, e, swN_snoc]
    congr 1
    cases k with
    | zero => simp
    | succ j =>
      have e2 : zs.take (j + 1) = zs.take j ++ [zs[j]] := by simp
      rw [e2, List.getLast?_append]
      simp [List.getD, show j + 1 < zs.length by omega, show j < zs.length by omega]
theorem swN_cons_le (x : Int) : ∀ (p s : List Int), swN (p ++ s) ≤ swN (p ++ x :: s)
  | [], [] => by simp [swN]
  | [], y :: r => by simp only [List.nil_append, swN]; omega
  | [a], [] => by simp [swN]
  | [a], y :: r => by
    simp only [List.cons_append, List.nil_append, swN]
    by_cases h1 : a = x
    · subst h1; simp
    · rw [if_pos h1]
      split <;> omega
  | a :: b :: p, s => by
    have := swN_cons_le x (b :: p) s
    simp only [List.cons_append, swN] at this ⊢
    omega
theorem swN_mid_le : ∀ (m p s : List Int), swN (p ++ s) ≤ swN (p ++ (m ++ s))
  | [], p, s => by simp
  | x :: m, p, s => by
    have h1 := swN_mid_le m p s
    have h2 := swN_cons_le x p (m ++ s)
    simp only [List.cons_append]
    omega
theorem sw_without (zs : List Int) (i m : Int) : swK (withoutL zs i m) (withoutL zs i m).length ≤ swK zs zs.length := by
  rw [swK_swN _ _ (Nat.le_refl _), swK_swN _ _ (Nat.le_refl _), List.take_length, List.take_length]
  unfold withoutL
  split
  · obtain ⟨q, hq⟩ : ∃ q, i.toNat + min m.toNat (zs.length - i.toNat) = q := ⟨_, rfl⟩
    rw [hq]
    have h := swN_mid_le ((zs.take q).drop i.toNat) (zs.take i.toNat) (zs.drop q)
    have e : zs.take i.toNat ++ ((zs.take q).drop i.toNat ++ zs.drop q) = zs := by
      have h1 : (zs.take q).take i.toNat ++ (zs.take q).drop i.toNat = zs.take q := List.take_append_drop _ _
      have h2 : (zs.take q).take i.toNat = zs.take i.toNat := by rw [List.take_take, Nat.min_eq_left (by omega)]
      rw [← List.append_assoc, ← h2, h1, List.take_append_drop]
    rwa [e] at h
  · omega
end Go.Proofs.YtgcdimfbkpbhnaaDoor.Pick
