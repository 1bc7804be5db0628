/-
  The reference's lines and words; whether two rows of texts are alike.
-/
import Derived.Test.YtaffaliplmfagaaGreatDoorWords2
import Derived.BigQuiet
set_option linter.unusedVariables false
namespace Go.Proofs.YtaffaliplmfagaaGreatDoor.Line
open Go.RowKit Go.Sort Go.Proofs.YtaffaliplmfagaaGreatDoor.Own Go.Proofs.YtaffaliplmfagaaGreatDoor.Conv

def mid (l : List UInt8) (a k : Nat) : List UInt8 := (l.take k).drop a
theorem mid_self (l : List UInt8) (a : Nat) : mid l a a = [] := by
  rw [mid]; exact List.drop_eq_nil_of_le (by rw [List.length_take]; omega)
theorem mid_snoc (l : List UInt8) (a k : Nat) (ha : a ≤ k) (hk : k < l.length) : mid l a (k + 1) = mid l a k ++ [l[k]] := by
  unfold mid
  rw [List.take_add_one, List.getElem?_eq_getElem hk, List.drop_append_of_le_length (by rw [List.length_take]; omega)]
  rfl
theorem mid_all (l : List UInt8) (a : Nat) : mid l a l.length = l.drop a := by rw [mid, List.take_length]
theorem mid_cut (l : List UInt8) (a k : Nat) (ha : a ≤ k) (hk : k < l.length) : l.drop a = mid l a k ++ l[k] :: l.drop (k + 1) := by
  unfold mid
  have h := List.take_append_drop k l
  have h2 : l.drop a = (l.take k ++ l.drop k).drop a := by rw [h]
  rw [h2, List.drop_append_of_le_length (by rw [List.length_take]; omega), List.drop_eq_getElem_cons hk]
theorem mid_len (l : List UInt8) (a k : Nat) (hk : k ≤ l.length) : (mid l a k).length = k - a := by
  rw [mid, List.length_drop, List.length_take]; omega
theorem no_snoc {l : List UInt8} {a k : Nat} (ha : a ≤ k) (hk : k < l.length) {c : UInt8} (h : ∀ b ∈ mid l a k, b ≠ c) (hc : l[k] ≠ c) : ∀ b ∈ mid l a (k + 1), b ≠ c := by
  rw [mid_snoc l a k ha hk]
  intro b hb
  rcases List.mem_append.1 hb with hb | hb
  · exact h b hb
  · rw [List.mem_singleton] at hb; rw [hb]; exact hc

theorem ext_mid (l : List UInt8) (a k : Nat) : (⟨l.toArray⟩ : ByteArray).extract a k = ⟨(mid l a k).toArray⟩ := by
  rw [Lib.extract_eq, mid, List.drop_take]

set_option maxHeartbeats 4000000 in
theorem refsplit_is (l : List UInt8) (hl : l.length ≤ 100000) (w : World) :
    Calls Tryz.prog 13 #[.string ⟨l.toArray⟩] w (TextsPost w (linesL l)) := by
  obtain ⟨i0, hi, hz0, hz1, hz2⟩ := info_parts info_string
  obtain ⟨s0, hs0⟩ : ∃ s : ByteArray, (⟨l.toArray⟩ : ByteArray) = s := ⟨_, rfl⟩
  have hsz : s0.size = l.length := by rw [← hs0]; exact mk_size l
  have hget : ∀ k (h : k < s0.size) (h2 : k < l.length), s0[k]'h = l[k] := by subst hs0; intro k h h2; rfl
  rw [hs0]
  have HS0 := Lib.hid hs0
  have Hget := Lib.hid hget
  have Hsz := Lib.hid hsz
  have hs1 : s0.size ≤ l.length := by omega
  have hs2 : l.length ≤ s0.size := by omega
  clear hs0 hget hsz
  go_enter Tryz.func13, Tryz.ntmps13
  go_wp2_with fail
  go_loopw [3, 4, 5] (fun o at_ i wr => ∃ (done : List (List UInt8)) (a k : Nat), a ≤ k ∧ k ≤ s0.size ∧ at_ = .int .i64 a ∧ i = .int .i64 k ∧ Hid (linesL l = done ++ linesL (l.drop a)) ∧ Hid (∀ b ∈ mid l a k, b ≠ 10) ∧ Seg wr w.heap.size 9 1 o done.length (sv done) ∧ Kept No w wr ∧ done.length ≤ k) (fun _ _ i _ => s0.size - (intOf i).toNat)
  case atStart => exact ⟨[], 0, 0, by omega, by omega, rfl, rfl, Lib.hid (by simp), Lib.hid (by rw [mid_self]; intro b hb; cases hb), Seg.nil _ _ _ _, Kept.refl _ _, by simp⟩
  case round =>
    obtain ⟨done, a, k, hak, hk, rfl, rfl, hll, hno, hseg, hK, hlen⟩ := hrel
    have hz := hK.size
    by_cases hlt : k < s0.size
    · have hlt2 : k < l.length := by omega
      have hg := Hget.out k hlt hlt2
      have hcut := mid_cut l a k hak hlt2
      have hnx := @no_snoc l a k hak hlt2 10 hno.out
      generalize l[k] = c at *
      by_cases hc : c = 10
      · obtain ⟨sx, hsx⟩ : ∃ sx, s0.extract a k = sx := ⟨_, rfl⟩
        have hvx : sv [mid l a k] = [.string sx] := by rw [← hsx, ← HS0.out, ext_mid]; rfl
        have HX := Lib.hid hvx
        have hl2 : linesL l = (done ++ [mid l a k]) ++ linesL (l.drop (k + 1)) := by
          rw [hll.out, hcut, hc, lines_hit _ _ hno.out]; simp
        have Hl2 := Lib.hid hl2
        have hcc : ((c.toNat : Int) == 10) = true := by rw [hc]; rfl
        clear hvx hl2 hcut hnx hc
        go_wp2_with (at_builtin; refine wpList_append_seg rfl _ _ 36 rfl w.heap.size 9 i0 (.string ⟨#[]⟩) 1 16 Tryz.underlying36 hi hz0 hz1 hz2 rfl (by decide) _ _ _ rfl (hseg.kept ((Kept.refl No _).alloc _) (fun _ _ f => f.elim)) ⟨_, 0, none⟩ 1 1 [.string sx] rfl rfl (cell_one _ _ _) (fun u hu => by simp at hu; subst hu; rfl) (by unfold maxLen; omega) (by omega) (by simp; omega) ?_)
        intro v3 w3 hs3 hg3 hb3
        have hK3 : Kept No w w3 := (hK.alloc (.cells #[.string sx] 9)).grown hg3 (fun g hlt hg => by have := (hseg.lt g hg).1; omega)
        have Hs3 := Lib.hid hs3
        clear hs3 hg3 hb3 hseg
        go_wp2_with fail
        go_roundw
        case rel =>
          have h3 := Hs3.out
          rw [← HX.out] at h3
          exact ⟨done ++ [mid l a k], k + 1, k + 1, by omega, by omega, by go_num, by go_num, Hl2, Lib.hid (by rw [mid_self]; intro b hb; cases hb), by rw [List.length_append, sv_app]; exact h3, hK3, by simp; omega⟩
        case measure => simp [intOf]; omega
      · have hcc : ((c.toNat : Int) == 10) = false := by
          rw [beq_eq_false_iff_ne]; intro e; exact hc (UInt8.toNat_inj.1 (Int.ofNat.inj e))
        have Hn := Lib.hid (hnx hc)
        clear hcut hnx hc
        have Hs3 := Lib.hid hseg
        clear hseg
        go_wp2_with fail
        go_roundw
        case rel => exact ⟨done, a, k + 1, by omega, by omega, by go_num, by go_num, hll, Hn, Hs3.out, hK, by omega⟩
        case measure => simp [intOf]; omega
    · obtain rfl : k = s0.size := by omega
      by_cases ha : a < s0.size
      · obtain ⟨sx, hsx⟩ : ∃ sx, s0.extract a s0.size = sx := ⟨_, rfl⟩
        have hd : mid l a s0.size = l.drop a := by rw [Hsz.out, mid_all]
        have hvx : sv [l.drop a] = [.string sx] := by rw [← hsx, ← HS0.out, ext_mid, mk_size, mid_all]; rfl
        have HX := Lib.hid hvx
        have hl2 : linesL l = done ++ [l.drop a] := by
          rw [hll.out, lines_miss _ (by intro e; have := congrArg List.length e; simp at this; omega) (by rw [← hd]; exact hno.out)]
        have Hl2 := Lib.hid hl2
        clear hvx hl2 hd
        go_wp2_with (at_builtin; refine wpList_append_seg rfl _ _ 36 rfl w.heap.size 9 i0 (.string ⟨#[]⟩) 1 16 Tryz.underlying36 hi hz0 hz1 hz2 rfl (by decide) _ _ _ rfl (hseg.kept ((Kept.refl No _).alloc _) (fun _ _ f => f.elim)) ⟨_, 0, none⟩ 1 1 [.string sx] rfl rfl (cell_one _ _ _) (fun u hu => by simp at hu; subst hu; rfl) (by unfold maxLen; omega) (by omega) (by simp; omega) ?_)
        intro v3 w3 hs3 hg3 hb3
        have hK3 : Kept No w w3 := (hK.alloc (.cells #[.string sx] 9)).grown hg3 (fun g hlt hg => by have := (hseg.lt g hg).1; omega)
        have Hs3 := Lib.hid hs3
        clear hs3 hg3 hb3 hseg
        go_wp2_with fail
        go_ret
        unfold TextsPost
        rw [Hl2.out]
        have h3 := Hs3.out
        rw [← HX.out] at h3
        exact ⟨hK3, v3, rfl, by rw [List.length_append, sv_app]; exact h3⟩
      · have hl2 : linesL l = done := by
          rw [hll.out, List.drop_eq_nil_of_le (by omega)]; simp [linesL]
        have Hl2 := Lib.hid hl2
        have Hs3 := Lib.hid hseg
        clear hl2 hseg
        go_wp2_with fail
        go_ret
        unfold TextsPost
        rw [Hl2.out]
        exact ⟨hK, _, rfl, Hs3.out⟩

end Go.Proofs.YtaffaliplmfagaaGreatDoor.Line
