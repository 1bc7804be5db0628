/-
  Package octet: a number as octets.
-/
import Derived.Test.YtaffaliplmfagaaGreatDoorOct2
import Derived.StillTailTactics
set_option linter.unusedVariables false
namespace Go.Proofs.YtaffaliplmfagaaGreatDoor.Oct
open Go.RowKit Go.Proofs.YtaffaliplmfagaaGreatDoor.Own

/-- A number's octets, the greatest first. -/
def beB (x n : Nat) : List Int := (List.range n).map fun k => ((x / 256 ^ (n - 1 - k) % 256 : Nat) : Int)
/-- The array when i octets have been laid. -/
def laid (x n i : Nat) : List Int := (List.range 8).map fun k => if n - i ≤ k ∧ k < n then ((x / 256 ^ (n - 1 - k) % 256 : Nat) : Int) else 0
theorem laid_zero (x n : Nat) : laid x n 0 = [0, 0, 0, 0, 0, 0, 0, 0] := by
  have : ∀ k, (if n - 0 ≤ k ∧ k < n then ((x / 256 ^ (n - 1 - k) % 256 : Nat) : Int) else 0) = 0 := fun k => if_neg (by omega)
  simp only [laid, this]
  rfl
theorem laid_succ (x n i : Nat) (hi : i < n) (hn : n ≤ 8) : laid x n (i + 1) = (laid x n i).set (n - 1 - i) ((x / 256 ^ i % 256 : Nat) : Int) := by
  apply List.ext_getElem
  · simp [laid]
  · intro k h1 h2
    simp only [laid, List.length_map, List.length_range] at h1
    rw [List.getElem_set]
    simp only [laid, List.getElem_map, List.getElem_range]
    by_cases hk : n - 1 - i = k
    · subst hk
      rw [if_pos rfl, if_pos (by omega), show n - 1 - (n - 1 - i) = i by omega]
    · rw [if_neg hk]
      by_cases h3 : n - i ≤ k ∧ k < n
      · rw [if_pos h3, if_pos (by omega)]
      · rw [if_neg h3, if_neg (by omega)]
theorem laid_done (x n : Nat) (hn : n ≤ 8) : (laid x n n).take n = beB x n := by
  apply List.ext_getElem
  · simp [laid, beB]; omega
  · intro k h1 h2
    simp only [beB, List.length_map, List.length_range] at h2
    simp only [laid, beB, List.getElem_take, List.getElem_map, List.getElem_range]
    rw [if_pos (by omega)]
theorem laid_len (x n i : Nat) : (laid x n i).length = 8 := by simp [laid]

set_option maxHeartbeats 2000000 in
set_option maxRecDepth 100000 in
theorem put_is (w : World) (x : Int) (n : Nat) (hn : 1 ≤ n) (hn8 : n ≤ 8) (hx : 0 ≤ x ∧ x < 9223372036854775808) :
    Calls Tryz.prog 38 #[.slice none 0 0, .int .i64 x, .int .i64 n] w fun e w' => ∃ v, e = .returned v ∧ Seg w' w.heap.size 5 1 v n (bv (beB x.toNat n)) ∧ Kept No w w' := by
  obtain ⟨i0, hi, hz0, hz1, hz2⟩ := info_parts info_byte
  obtain ⟨y, rfl⟩ : ∃ y : Nat, x = y := ⟨x.toNat, by omega⟩
  have E0 : IntKind.u64.wrap (y : Int) = (y : Int) := by rw [IntKind.wrap_u64]; omega
  go_enter Tryz.func38, Tryz.ntmps38
  go_wp2_with fail
  have b0 : Box (w.alloc (.cells #[.int .u8 0, .int .u8 0, .int .u8 0, .int .u8 0, .int .u8 0, .int .u8 0, .int .u8 0, .int .u8 0] 106)) w.heap.size (bv (laid y n 0)).toArray 106 := by
    rw [laid_zero]; exact Box.new w _ _
  have k0 := (Kept.refl No w).alloc (.cells #[.int .u8 0, .int .u8 0, .int .u8 0, .int .u8 0, .int .u8 0, .int .u8 0, .int .u8 0, .int .u8 0] 106)
  generalize w.alloc (.cells #[.int .u8 0, .int .u8 0, .int .u8 0, .int .u8 0, .int .u8 0, .int .u8 0, .int .u8 0, .int .u8 0] 106) = w1 at *
  go_loopw [8, 20, 9] (fun x j _ wr => ∃ i : Nat, i ≤ n ∧ j = .int .i64 i ∧ x = .int .u64 (y / 256 ^ i : Nat) ∧ Box wr w.heap.size (bv (laid y n i)).toArray 106 ∧ Kept No w wr) (fun _ j _ _ => n - (intOf j).toNat)
  case atStart => exact ⟨0, by omega, rfl, by simp, b0, k0⟩
  case round =>
    obtain ⟨i, hi2, rfl, rfl, hb, hK⟩ := hrel
    by_cases hlt : i < n
    · have e1 : IntKind.i64.wrap ((n : Int) - 1) = (n : Int) - 1 := by rw [IntKind.wrap_i64]; omega
      have e2 : IntKind.i64.wrap ((n : Int) - 1 - (i : Int)) = ((n - 1 - i : Nat) : Int) := by rw [IntKind.wrap_i64]; omega
      have hd : y / 256 ^ (i + 1) = y / 256 ^ i / 256 := by rw [Nat.pow_succ, Nat.div_div_eq_div_mul]
      have hls := laid_succ y n i hlt hn8
      have hll := laid_len y n i
      obtain ⟨p, hp⟩ : ∃ p, p = n - 1 - i := ⟨_, rfl⟩
      rw [← hp] at e2 hls
      have hc : wr.cell? ⟨w.heap.size, p, none⟩ = some (.int .u8 ((laid y n i)[p]'(by omega))) := by rw [hb.cell]; simp [bv]
      have hf := hb.frozen p
      have h8 : (p : Int) < 8 := by omega
      have h9 : p < 8 := by omega
      generalize (laid y n i)[p]'(by omega) = c0 at hc
      clear hp
      generalize y / 256 ^ i = q at *
      have e3 : IntKind.u8.wrap (q : Int) = ((q % 256 : Nat) : Int) := by rw [IntKind.wrap_u8]; omega
      go_wp2_with fail
      go_roundw
      case rel =>
        have hb2 := box_set hb p (.int .u8 (q % 256 : Nat))
        refine ⟨i + 1, by omega, by go_num, by rw [hd]; simp, ?_, hK.setCell (p := ⟨w.heap.size, p, none⟩) (fun h => by simp at h) _⟩
        rw [hls]
        simpa [bv] using hb2
      case measure => simp [intOf]; omega
    · obtain rfl : i = n := by omega
      go_wp2_with fail
      go_still_tail 8, (by kernel_rfl)
      change wpList _ _ _ _ _ wr.drew
      have hb2 : Box wr.drew w.heap.size (bv (laid y i i)).toArray 106 := hb.kept ((Kept.refl No wr).drew) id
      have hK2 := hK.drew
      have hll := laid_len y i i
      have hdn := laid_done y i hn8
      generalize wr.drew = w2 at *
      have hz := hK2.size
      go_wp2_with (at_builtin; refine wpList_append_seg rfl _ _ 28 rfl w.heap.size 5 i0 (.int .u8 0) 1 1 Tryz.underlying28 hi hz0 hz1 hz2 rfl (by decide) _ _ _ rfl (Seg.nil _ _ _ _) ⟨w.heap.size, 0, none⟩ i 8 (bv (beB y i)) rfl (by simp [bv, beB]) ?c1 ?c2 ?c3 ?c4 hz ?_)
      case c1 =>
        intro j u hu
        rw [Addr.add_lit, hb2.cell, ← hdn] at *
        simp only [bv, List.map_take, List.getElem?_take] at hu
        split at hu
        · simpa [bv] using hu
        · cases hu
      case c2 =>
        intro u hu
        simp only [bv, List.mem_map] at hu
        obtain ⟨z, _, rfl⟩ := hu
        rfl
      case c3 => unfold maxLen; omega
      case c4 => omega
      intro v' w3 hs hg _
      have hk3 : Kept No w w3 := hK2.grown hg (fun k hk e => by cases e)
      go_wp2_with fail
      go_ret
      exact ⟨v', rfl, by simpa using hs, hk3⟩
end Go.Proofs.YtaffaliplmfagaaGreatDoor.Oct
