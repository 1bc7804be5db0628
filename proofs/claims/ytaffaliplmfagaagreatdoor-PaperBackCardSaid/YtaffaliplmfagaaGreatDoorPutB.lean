/-
  Package octet: a number as octets, behind others.
-/
import Derived.Test.YtaffaliplmfagaaGreatDoorOct3
set_option linter.unusedVariables false
namespace Go.Proofs.YtaffaliplmfagaaGreatDoor.Oct
open Go.RowKit Go.Proofs.YtaffaliplmfagaaGreatDoor.Own

theorem bv_app (xs ys : List Int) : bv (xs ++ ys) = bv xs ++ bv ys := by simp [bv]
theorem seg_clip {w : World} {B : Nat} {e : TypeId} {g o cap n : Nat} {xs : List Value} (h : Seg w B e 1 (.slice (some ⟨g, o, none⟩) n cap) n xs) : Seg w B e 1 (.slice (some ⟨g, o, none⟩) n n) n xs := by
  obtain ⟨hl, ⟨h1, _⟩ | ⟨g', o', cap', cur, h1, hB, hb, hc, hm, hf, hx⟩⟩ := h
  · cases h1
  · cases h1
    exact ⟨hl, .inr ⟨_, _, n, cur, rfl, hB, hb, Nat.le_refl _, by omega, by omega, hx⟩⟩
set_option maxHeartbeats 2000000 in
set_option maxRecDepth 100000 in
theorem putb_some (w : World) (B : Nat) (g o cap m : Nat) (xs : List Int) (hs0 : Seg w B 5 1 (.slice (some ⟨g, o, none⟩) m cap) m (bv xs)) (hB : B ≤ w.heap.size) (hm : m ≤ 1000000) (x : Int) (n : Nat) (hn : 1 ≤ n) (hn8 : n ≤ 8) (hx : 0 ≤ x ∧ x < 9223372036854775808) :
    Calls Tryz.prog 38 #[.slice (some ⟨g, o, none⟩) m cap, .int .i64 x, .int .i64 n] w fun e w' => ∃ v, e = .returned v ∧ Seg w' B 5 1 v (m + n) (bv (xs ++ beB x.toNat n)) ∧ Kept (fun k => g = k) w w' ∧ (∀ k, v.ownBlock = some k → g = k ∨ w.heap.size ≤ k) := by
  obtain ⟨_, a0, c0, he0, hc0, hm0, _, _⟩ := hs0.rd
  obtain ⟨rfl, rfl⟩ : (some ⟨g, o, none⟩ : Option Addr) = a0 ∧ cap = c0 := by injection he0 with h1 h2 h3; exact ⟨h1, h3⟩
  unfold maxLen at hm0
  have hgl := (hs0.lt g rfl).1
  have hclip := seg_clip hs0
  have HC := Lib.hid hclip
  have HG := Lib.hid hgl
  clear hs0 hclip hgl he0
  obtain ⟨i0, hi, hz0, hz1, hz2⟩ := info_parts info_byte
  obtain ⟨y, rfl⟩ : ∃ y : Nat, x = y := ⟨x.toNat, by omega⟩
  have E0 : IntKind.u64.wrap (y : Int) = (y : Int) := by rw [IntKind.wrap_u64]; omega
  go_enter Tryz.func38, Tryz.ntmps38
  go_wp2_with fail
  have b0 : Box (w.alloc (.cells #[.int .u8 0, .int .u8 0, .int .u8 0, .int .u8 0, .int .u8 0, .int .u8 0, .int .u8 0, .int .u8 0] 106)) w.heap.size (bv (laid y n 0)).toArray 106 := by
    rw [laid_zero]; exact Box.new w _ _
  have k0 := (Kept.refl No w).alloc (.cells #[.int .u8 0, .int .u8 0, .int .u8 0, .int .u8 0, .int .u8 0, .int .u8 0, .int .u8 0, .int .u8 0] 106)
  generalize w.alloc (.cells #[.int .u8 0, .int .u8 0, .int .u8 0, .int .u8 0, .int .u8 0, .int .u8 0, .int .u8 0, .int .u8 0] 106) = w1 at *
  go_loopw [8, 20, 9] (fun x j _ wr => ∃ i : Nat, i ≤ n ∧ j = .int .i64 i ∧ x = .int .u64 (y / 256 ^ i : Nat) ∧ Box wr w.heap.size (bv (laid y n i)).toArray 106 ∧ Kept No w wr) (fun _ j _ _ => n - (intOf j).toNat)
  case atStart => exact ⟨0, by omega, rfl, by simp, b0, k0⟩
  case round =>
    obtain ⟨i, hi2, rfl, rfl, hb, hK⟩ := hrel
    by_cases hlt : i < n
    · have e1 : IntKind.i64.wrap ((n : Int) - 1) = (n : Int) - 1 := by rw [IntKind.wrap_i64]; omega
      have e2 : IntKind.i64.wrap ((n : Int) - 1 - (i : Int)) = ((n - 1 - i : Nat) : Int) := by rw [IntKind.wrap_i64]; omega
      have hd : y / 256 ^ (i + 1) = y / 256 ^ i / 256 := by rw [Nat.pow_succ, Nat.div_div_eq_div_mul]
      have hls := laid_succ y n i hlt hn8
      have hll := laid_len y n i
      obtain ⟨p, hp⟩ : ∃ p, p = n - 1 - i := ⟨_, rfl⟩
      rw [← hp] at e2 hls
      have hc : wr.cell? ⟨w.heap.size, p, none⟩ = some (.int .u8 ((laid y n i)[p]'(by omega))) := by rw [hb.cell]; simp [bv]
      have hf := hb.frozen p
      have h8 : (p : Int) < 8 := by omega
      have h9 : p < 8 := by omega
      generalize (laid y n i)[p]'(by omega) = c0 at hc
      clear hp
      generalize y / 256 ^ i = q at *
      have e3 : IntKind.u8.wrap (q : Int) = ((q % 256 : Nat) : Int) := by rw [IntKind.wrap_u8]; omega
      go_wp2_with fail
      go_roundw
      case rel =>
        have hb2 := box_set hb p (.int .u8 (q % 256 : Nat))
        refine ⟨i + 1, by omega, by go_num, by rw [hd]; simp, ?_, hK.setCell (p := ⟨w.heap.size, p, none⟩) (fun h => by simp at h) _⟩
        rw [hls]
        simpa [bv] using hb2
      case measure => simp [intOf]; omega
    · obtain rfl : i = n := by omega
      go_wp2_with fail
      go_still_tail 8, (by kernel_rfl)
      change wpList _ _ _ _ _ wr.drew
      have hb2 : Box wr.drew w.heap.size (bv (laid y i i)).toArray 106 := hb.kept ((Kept.refl No wr).drew) id
      have hK2 := hK.drew
      have hll := laid_len y i i
      have hdn := laid_done y i hn8
      generalize wr.drew = w2 at *
      have hz := hK2.size
      have hsc := HC.out.kept hK2 (fun _ _ f => f)
      go_wp2_with (at_builtin; refine wpList_append_seg rfl _ _ 28 rfl B 5 i0 (.int .u8 0) 1 1 Tryz.underlying28 hi hz0 hz1 hz2 rfl (by decide) _ _ _ rfl hsc ⟨w.heap.size, 0, none⟩ i 8 (bv (beB y i)) rfl (by simp [bv, beB]) ?c1 ?c2 ?c3 ?c4 (Nat.le_trans hB hz) ?_)
      case c1 =>
        intro j u hu
        rw [Addr.add_lit, hb2.cell, ← hdn] at *
        simp only [bv, List.map_take, List.getElem?_take] at hu
        split at hu
        · simpa [bv] using hu
        · cases hu
      case c2 =>
        intro u hu
        simp only [bv, List.mem_map] at hu
        obtain ⟨z, _, rfl⟩ := hu
        rfl
      case c3 => unfold maxLen; omega
      case c4 => omega
      intro v' w3 hs hg hob
      have hk3 : Kept (fun k => g = k) w w3 := (hK2.mono (fun _ _ f => f.elim)).grown hg (fun k hk e => by simpa [Value.ownBlock] using e)
      go_wp2_with fail
      go_ret
      refine ⟨v', rfl, by rw [bv_app]; simpa using hs, hk3, fun k hk => ?_⟩
      rcases hob k hk with h | h
      · exact .inl (by simpa [Value.ownBlock] using h)
      · exact .inr (Nat.le_trans hz h)

theorem putb_is (w : World) (B : Nat) (v0 : Value) (m : Nat) (xs : List Int) (hs0 : Seg w B 5 1 v0 m (bv xs)) (hB : B ≤ w.heap.size) (hm : m ≤ 1000000) (x : Int) (n : Nat) (hn : 1 ≤ n) (hn8 : n ≤ 8) (hx : 0 ≤ x ∧ x < 9223372036854775808) :
    Calls Tryz.prog 38 #[v0, .int .i64 x, .int .i64 n] w fun e w' => ∃ v, e = .returned v ∧ Seg w' B 5 1 v (m + n) (bv (xs ++ beB x.toNat n)) ∧ Kept (fun k => v0.ownBlock = some k) w w' ∧ (∀ g, v.ownBlock = some g → v0.ownBlock = some g ∨ w.heap.size ≤ g) := by
  rcases hs0.2 with ⟨rfl, rfl⟩ | ⟨g, o, cap, cur, rfl, _⟩
  · have hx0 : xs = [] := by
      have := hs0.1
      rw [bv_len] at this
      exact List.eq_nil_of_length_eq_zero (by omega)
    subst hx0
    refine (put_is w x n hn hn8 hx).mono ?_
    rintro e w' ⟨v, rfl, hs, hk⟩
    refine ⟨v, rfl, by simpa using hs.mono hB, hk.mono (fun _ _ f => f.elim), fun g hg => .inr (hs.lt g hg).1⟩
  · refine (putb_some w B g o cap m xs hs0 hB hm x n hn hn8 hx).mono ?_
    rintro e w' ⟨v, rfl, hs, hk, hv⟩
    refine ⟨v, rfl, hs, hk.mono (fun k _ h => by subst h; rfl), fun k hk => ?_⟩
    rcases hv k hk with h | h
    · subst h; exact .inl rfl
    · exact .inr h
end Go.Proofs.YtaffaliplmfagaaGreatDoor.Oct
