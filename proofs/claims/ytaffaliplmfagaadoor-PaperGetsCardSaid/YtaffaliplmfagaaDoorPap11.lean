/-
  What is got, put, is the octets: in plain lists.
-/
import Derived.Test.YtaffaliplmfagaaDoorPap7
set_option linter.unusedVariables false
set_option linter.unusedSimpArgs false
namespace Go.Proofs.YtaffaliplmfagaaDoor.Line
open Go.RowKit Go.Sort Go.Proofs.YtaffaliplmfagaaDoor.Own Go.Proofs.YtaffaliplmfagaaDoor.Conv Go.Proofs.YtaffaliplmfagaaDoor.Calm Go.Proofs.YtaffaliplmfagaaDoor.Oct

theorem beB_succ (x n : Nat) : beB x (n + 1) = beB (x / 256) n ++ [((x % 256 : Nat) : Int)] := by
  unfold beB
  rw [List.range_succ, List.map_append]
  congr 1
  · apply List.map_congr_left
    intro k hk
    have hk := List.mem_range.1 hk
    rw [Nat.div_div_eq_div_mul, ← Nat.pow_succ', show (n - 1 - k).succ = n + 1 - 1 - k by omega]
  · simp
theorem beB_beN : ∀ (n : Nat) (l : List Int), Octs l → l.length = n → beB (beN l) n = l
  | 0, l, _, h => by
    obtain rfl := List.length_eq_zero_iff.1 h
    rfl
  | n + 1, l, ho, h => by
    obtain ⟨a, c, rfl⟩ : ∃ a c, l = a ++ [c] := ⟨l.dropLast, l.getLast (by intro e; rw [e] at h; simp at h), (List.dropLast_concat_getLast _).symm⟩
    have hc := ho c (by simp)
    have hl : a.length = n := by simpa using h
    have ih := beB_beN n a (fun z hz => ho z (by simp [hz])) hl
    rw [beN_snoc, beB_succ, show (beN a * 256 + c.toNat) / 256 = beN a by omega, show (beN a * 256 + c.toNat) % 256 = c.toNat by omega, ih, show ((c.toNat : Nat) : Int) = c by omega]
def sg (bs : List Int) (a n : Nat) : List Int := (bs.drop a).take n
theorem sg_add (bs : List Int) (a n m : Nat) : sg bs a (n + m) = sg bs a n ++ sg bs (a + n) m := by
  unfold sg
  rw [List.take_add, List.drop_drop]
theorem sg_len (bs : List Int) (a n : Nat) (h : a + n ≤ bs.length) : (sg bs a n).length = n := by
  unfold sg
  rw [List.length_take, List.length_drop]
  omega
theorem sg_oct {bs : List Int} (h : Octs bs) (a n : Nat) : Octs (sg bs a n) := fun c hc => h c (List.mem_of_mem_drop (List.mem_of_mem_take hc))
theorem sg_be {bs : List Int} (h : Octs bs) (a n : Nat) (hl : a + n ≤ bs.length) : beB (beN (sg bs a n)) n = sg bs a n := beB_beN n _ (sg_oct h a n) (sg_len bs a n hl)
theorem wrF_full (bs : List Int) : ∀ (d k : Nat), (Pick.wrF bs k d).2 = 0 → (Pick.wrF bs k d).1 = 2 + k + d ∧ (d = 0 ∨ 2 + k + d ≤ bs.length)
  | 0, k, h => ⟨rfl, .inl rfl⟩
  | d + 1, k, h => by
    rw [Pick.wrF] at h ⊢
    split at h
    · cases h
    · rename_i h1
      split at h
      · cases h
      · rename_i h2
        rw [if_neg h1, if_neg h2]
        obtain ⟨e1, e2⟩ := wrF_full bs d (k + 1) h
        exact ⟨by omega, .inr (by omega)⟩
theorem wrong_full (bs : List Int) (h : (Pick.wrongL bs).2 = 0) : (Pick.wrongL bs).1 = 2 + beN (bs.take 2) ∧ 2 + beN (bs.take 2) ≤ bs.length := by
  unfold Pick.wrongL at h ⊢
  split at h
  · cases h
  · rename_i h1
    split at h
    · cases h
    · rename_i h2
      rw [if_neg h1, if_neg h2]
      obtain ⟨e1, e2⟩ := wrF_full bs _ _ h
      exact ⟨by omega, by omega⟩
def octK (x : K3 × List Int) : List Int := pre3 x.1.1 x.1.2.1 x.1.2.2 3 ++ (beB x.2.length 2 ++ x.2)
theorem octsF_key (fs : List FoundI) : octsF fs = (fs.map keyF).flatMap octK := by
  unfold octsF
  rw [List.flatMap_map]
  rfl
theorem scan_got {bs : List Int} (ho : Octs bs) : ∀ (d a e : Nat), a ≤ bs.length → scanF bs a d = (e, 0) → a ≤ e ∧ e ≤ bs.length ∧ (gotF bs a d).flatMap octK = sg bs a (e - a) ∧ (gotF bs a d).length = d
  | 0, a, e, ha, h => by
    rw [scanF] at h
    obtain rfl : a = e := congrArg Prod.fst h
    refine ⟨Nat.le_refl _, ha, ?_, rfl⟩
    rw [Nat.sub_self]
    rfl
  | d + 1, a, e, ha, h => by
    rw [scanF] at h
    split at h
    · cases h
    · rename_i h3
      split at h
      · rename_i h4
        exact absurd (congrArg Prod.snd h) h4
      · rename_i h4
        obtain ⟨x1, x2⟩ := wrong_full _ (Decidable.not_not.1 h4)
        rw [List.length_drop] at x2
        rw [x1] at h
        obtain ⟨m, hm⟩ : ∃ m, beN (List.take 2 (List.drop (a + 3) bs)) = m := ⟨_, rfl⟩
        rw [hm] at x1 x2 h
        obtain ⟨i1, i2, i3, i4⟩ := scan_got ho d (a + 3 + (2 + m)) e (by omega) h
        refine ⟨by omega, i2, ?_, by rw [gotF, x1, List.length_cons, i4]⟩
        rw [gotF, x1, List.flatMap_cons, i3]
        have hz : List.take m (List.drop 2 (List.drop (a + 3) bs)) = sg bs (a + 5) m := by rw [List.drop_drop]; rfl
        rw [hm, hz]
        have hk : ∀ q, a + q + 1 ≤ bs.length → beB (beN (sg bs (a + q) 1)) 1 = sg bs (a + q) 1 := fun q hq => sg_be ho _ _ hq
        have h2 : beB m 2 = sg bs (a + 3) 2 := by rw [← hm]; exact sg_be ho (a + 3) 2 (by omega)
        have e0 : sg bs a (e - a) = sg bs a 1 ++ (sg bs (a + 1) 1 ++ (sg bs (a + 2) 1 ++ (sg bs (a + 3) 2 ++ (sg bs (a + 5) m ++ sg bs (a + 3 + (2 + m)) (e - (a + 3 + (2 + m))))))) := by
          rw [show e - a = 1 + (1 + (1 + (2 + (m + (e - (a + 3 + (2 + m))))))) by omega, sg_add, sg_add, sg_add, sg_add, sg_add, show a + 1 + 1 = a + 2 by omega, show a + 2 + 1 = a + 3 by omega, show a + 3 + 2 = a + 5 by omega, show a + 5 + m = a + 3 + (2 + m) by omega]
        have hok : octK ((((beN ((bs.drop a).take 1) : Nat) : Int), ((beN ((bs.drop (a + 1)).take 1) : Nat) : Int), ((beN ((bs.drop (a + 2)).take 1) : Nat) : Int)), sg bs (a + 5) m) = beB (beN (sg bs a 1)) 1 ++ (beB (beN (sg bs (a + 1) 1)) 1 ++ (beB (beN (sg bs (a + 2) 1)) 1 ++ (beB m 2 ++ sg bs (a + 5) m))) := by
          unfold octK pre3
          rw [sg_len bs (a + 5) m (by omega)]
          simp [List.flatMap_cons, sg]
        rw [hok, hk 1 (by omega), hk 2 (by omega), h2, e0, show beB (beN (sg bs a 1)) 1 = sg bs a 1 from hk 0 (by omega)]
        simp only [List.append_assoc]
theorem put_got {bs : List Int} (ho : Octs bs) {fs : List FoundI} (hw : (wrongP bs).2 = 0) (hw1 : (wrongP bs).1 = bs.length) (hf : fs.map keyF = gotF bs 9 (beN ((bs.drop 8).take 1))) : octR (vdG bs) (edG bs) fs = bs := by
  unfold wrongP at hw hw1
  split at hw
  · cases hw
  · rename_i h0
    rw [if_neg h0] at hw1
    split at hw
    · cases hw
    · rename_i h9
      rw [if_neg h9] at hw1
      split at hw
      · rename_i h1; exact absurd hw h1
      · rename_i h1
        rw [if_neg h1] at hw1
        split at hw
        · cases hw
        · rename_i h2
          rw [if_neg h2] at hw1
          have hsc : scanF bs 9 (beN ((bs.drop 8).take 1)) = (bs.length, 0) := Prod.ext hw1 (Decidable.not_not.1 h1)
          obtain ⟨-, -, e1, e2⟩ := scan_got ho _ _ _ (by omega) hsc
          have hlen : fs.length = beN (sg bs 8 1) := by
            have := congrArg List.length hf
            rw [List.length_map, e2] at this
            exact this
          have h82 : sg bs 0 1 = [82] := by
            have hz : bs.getD 0 0 = 82 := Decidable.not_not.1 (fun h => h0 (.inr h))
            match bs, h9, hz with
            | [], h9, _ => exact absurd (by simp) h9
            | c :: r, _, hz =>
              obtain rfl : c = 82 := hz
              rfl
          have hv : beB (vdG bs).toNat 1 = sg bs 1 1 := sg_be ho 1 1 (by omega)
          have he : beB (edG bs).toNat 6 = sg bs 2 6 := sg_be ho 2 6 (by omega)
          have h8 : beB (beN (sg bs 8 1)) 1 = sg bs 8 1 := sg_be ho 8 1 (by omega)
          have hall : bs = sg bs 0 1 ++ (sg bs 1 1 ++ (sg bs 2 6 ++ (sg bs 8 1 ++ sg bs 9 (bs.length - 9)))) := by
            have : bs = sg bs 0 bs.length := by simp [sg]
            conv => lhs; rw [this]
            conv => lhs; rw [show bs.length = 1 + (1 + (6 + (1 + (bs.length - 9)))) by omega, sg_add, sg_add, sg_add, sg_add]
          unfold octR octH
          rw [octsF_key, hf, e1, hlen, hv, he, h8]
          conv => rhs; rw [hall, h82]
          simp only [List.append_assoc]
end Go.Proofs.YtaffaliplmfagaaDoor.Line
