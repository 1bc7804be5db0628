/-
  The walks of package buffer's New and Clone, and of All, Clone and Last over nil and over a buffer that New did not make.
-/
import Derived.Test.YtgjoofjkhcnekaaBuf6
set_option linter.unusedVariables false
namespace Go.Proofs.Ytgjoofjkhcnekaa.Buf
open Go.RowKit Go.Conc Go.Proofs.Ytgjoofjkhcnekaa.Chan Go.Proofs.Ytgjoofjkhcnekaa.Own

theorem near_any (n lo hi : Int) (w : World) : Calls Try.prog 8 #[.int .i64 n, .int .i64 lo, .int .i64 hi] w fun e w' => e = .returned (.int .i64 (near n lo hi)) ∧ w' = w := by
  by_cases h1 : n < lo
  · have hn := Lib.hid (near_lo (hi := hi) h1)
    go_enter Try.func8, Try.ntmps8
    go_wp2
    go_ret
    exact ⟨by rw [hn.out]; rfl, rfl⟩
  · by_cases h2 : hi < n
    · have hn := Lib.hid (near_hi h1 h2)
      go_enter Try.func8, Try.ntmps8
      go_wp2
      go_ret
      exact ⟨by rw [hn.out]; rfl, rfl⟩
    · have hn := Lib.hid (near_in h1 h2)
      go_enter Try.func8, Try.ntmps8
      go_wp2
      go_ret
      exact ⟨by rw [hn.out]; rfl, rfl⟩
theorem near_is (n lo hi r : Int) (w : World) (h : near n lo hi = r) : Calls Try.prog 8 #[.int .i64 n, .int .i64 lo, .int .i64 hi] w fun e w' => e = .returned (.int .i64 r) ∧ w' = w := by
  subst h; exact near_any n lo hi w
theorem clamp_any (n lo hi : Int) (w : World) (hle : lo ≤ hi) : Calls Try.prog 19 #[.int .i64 n, .int .i64 lo, .int .i64 hi] w fun e w' => e = .returned (.int .i64 (near n lo hi)) ∧ w' = w := by
  by_cases h1 : n < lo
  · have hn := Lib.hid (near_lo (hi := hi) h1)
    go_enter Try.func19, Try.ntmps19
    go_wp2
    go_ret
    exact ⟨by rw [hn.out]; rfl, rfl⟩
  · by_cases h2 : hi < n
    · have hn := Lib.hid (near_hi h1 h2)
      go_enter Try.func19, Try.ntmps19
      go_wp2
      go_ret
      exact ⟨by rw [hn.out]; rfl, rfl⟩
    · have hn := Lib.hid (near_in h1 h2)
      go_enter Try.func19, Try.ntmps19
      go_wp2
      go_ret
      exact ⟨by rw [hn.out]; rfl, rfl⟩

theorem info_el : ∃ i, Try.prog.info? 35 = some i ∧ i.bytes = 64 := by
  have h : (Try.prog.info? 35).map (·.bytes) = some 64 := by kernel_rfl
  obtain ⟨i, hi, hb⟩ := Option.map_eq_some_iff.1 h
  exact ⟨i, hi, hb⟩
theorem mk (w : World) (n : Int) (h0 : 0 ≤ n) (h1 : n ≤ 4) : (Instr.makeChan 43 (.int .i64 n)).run Try.prog w = .ok (.chan (some w.heap.size)) (w.alloc (.chan n.toNat #[] false 0 0 false)) := by
  obtain ⟨i, hi, hb⟩ := info_el
  obtain ⟨m, rfl⟩ := Int.eq_ofNat_of_zero_le h0
  simpa using run_makeChan (P := Try.prog) (w := w) Try.underlying43 hi .i64 m (by omega) (by rw [hb]; omega)
def made (w : World) (cap : Nat) : World := (w.alloc (.chan cap #[] false 0 0 false)).alloc (.cells #[.chan (some w.heap.size)] 45)
theorem made_pt (w : World) (cap : Nat) : Pt (made w cap) (w.heap.size + 1) w.heap.size cap [] := by
  refine ⟨by simp [made], ⟨0, 0, ?_⟩, by simp [made], by omega⟩
  unfold made
  rw [Below.heap_alloc _ _ _ (by simp)]
  exact heap_alloc_new w _
theorem made_kept (w : World) (cap : Nat) : Kept No w (made w cap) := ((Kept.refl No w).alloc _).alloc _
theorem new_is (t : Int) (cap : Nat) (w : World) (h : near t 0 4 = cap) : Calls Try.prog 7 #[.int .i64 t] w fun e w' => ∃ b c, e = .returned (.pointer (some ⟨b, 0, .none⟩)) ∧ Pt w' b c cap [] ∧ w.heap.size ≤ c ∧ w.heap.size ≤ b ∧ Kept No w w' := by
  have hbd := near_bd t 0 4 (by omega)
  have hm := mk w cap (by omega) (by omega)
  have HM := Lib.hid h
  clear h hbd
  have hfin : made w cap = made w cap := rfl
  go_enter Try.func7, Try.ntmps7
  go_wp2_with fail
  refine (clamp_any t 0 4 _ (by omega)).mono ?_
  rintro e w' ⟨rfl, rfl⟩
  rw [HM.out]
  go_wp2_with fail
  go_ret
  exact ⟨w'.heap.size + 1, w'.heap.size, by simp, made_pt w' cap, Nat.le_refl _, by omega, made_kept w' cap⟩

theorem all_nil (w : World) : Calls Try.prog 16 #[.pointer none] w fun e w' => e = .returned (.slice none 0 0) ∧ w' = w := by
  go_enter Try.func16, Try.ntmps16
  go_wp2_with (go_at_call 15; refine (len_nil _).mono ?_; rintro e w' ⟨rfl, rfl⟩)
  go_loopw [8, 3] (fun i v wr => i = .int .i64 0 ∧ v = .slice none 0 0 ∧ wr = w') (fun i v wr => 0)
  case atStart => exact ⟨rfl, rfl, rfl⟩
  case round =>
    obtain ⟨rfl, rfl, rfl⟩ := hrel
    go_wp2
    go_ret
    exact ⟨rfl, rfl⟩
theorem all_odd (b : Nat) (w : World) (h : w.cell? ⟨b, 0, .none⟩ = some (.chan none)) : Calls Try.prog 16 #[.pointer (some ⟨b, 0, .none⟩)] w fun e w' => e = .returned (.slice none 0 0) ∧ w' = w := by
  go_enter Try.func16, Try.ntmps16
  go_wp2_with (go_at_call 15; refine (len_odd _ _ h).mono ?_; rintro e w' ⟨rfl, rfl⟩)
  go_loopw [8, 3] (fun i v wr => i = .int .i64 0 ∧ v = .slice none 0 0 ∧ wr = w') (fun i v wr => 0)
  case atStart => exact ⟨rfl, rfl, rfl⟩
  case round =>
    obtain ⟨rfl, rfl, rfl⟩ := hrel
    go_wp2
    go_ret
    exact ⟨rfl, rfl⟩
theorem clone_nil (w : World) : Calls Try.prog 11 #[.pointer none] w fun e w' => e = .returned (.pointer none) ∧ w' = w := by
  go_enter Try.func11, Try.ntmps11
  go_wp2_with (go_at_call 22; refine (none_nil _).mono ?_; rintro e w' ⟨rfl, rfl⟩)
  go_ret
  exact ⟨rfl, rfl⟩
theorem clone_odd (b : Nat) (w : World) (h : w.cell? ⟨b, 0, .none⟩ = some (.chan none)) : Calls Try.prog 11 #[.pointer (some ⟨b, 0, .none⟩)] w fun e w' => e = .returned (.pointer none) ∧ w' = w := by
  go_enter Try.func11, Try.ntmps11
  go_wp2_with (go_at_call 22; refine (none_odd _ _ h).mono ?_; rintro e w' ⟨rfl, rfl⟩)
  go_ret
  exact ⟨rfl, rfl⟩
theorem last_odd (b : Nat) (pk pi pj gen : Int) (w : World) (h : w.cell? ⟨b, 0, .none⟩ = some (.chan none)) : Calls Try.prog 13 #[.pointer (some ⟨b, 0, .none⟩), .agg #[.int .i64 pk, .int .i64 pi, .int .i64 pj], .int .i64 gen] w fun e w' => e = .returned (.tuple #[.agg #[.int .i64 0, .int .i64 0, .int .i64 0], .bool false]) ∧ Kept No w w' := by
  have hb : b < w.heap.size := by
    rcases Nat.lt_or_ge b w.heap.size with h1 | h1
    · exact h1
    · simp [World.cell?, Array.getElem?_eq_none h1] at h
  have hA := (((Kept.refl No w).alloc (.cells #[.int .i64 pk, .int .i64 pi, .int .i64 pj] 31)).alloc (.cells #[.int .i64 0, .int .i64 0, .int .i64 0] 33)).alloc (.cells #[.int .i64 0, .int .i64 0, .int .i64 0] 33)
  have h1 := (hA.cell (p := ⟨b, 0, .none⟩) hb id).trans h
  go_enter Try.func13, Try.ntmps13
  go_wp2_with fail
  refine (all_odd b _ h1).mono ?_
  rintro e w' ⟨rfl, rfl⟩
  go_wp2_with fail
  go_loopw [15, 9] (fun i ok wr => i = .int .i64 0 ∧ ok = .bool false ∧ wr = (((w.alloc (.cells #[.int .i64 pk, .int .i64 pi, .int .i64 pj] 31)).alloc (.cells #[.int .i64 0, .int .i64 0, .int .i64 0] 33)).alloc (.cells #[.int .i64 0, .int .i64 0, .int .i64 0] 33))) (fun i ok wr => 0)
  case atStart => exact ⟨rfl, rfl, rfl⟩
  case round =>
    obtain ⟨rfl, rfl, rfl⟩ := hrel
    go_wp2_with fail
    refine bodyPost_ret (v := .tuple #[.agg #[.int .i64 0, .int .i64 0, .int .i64 0], .bool false]) (by simp [results, Try.results13, go_sem]) rfl ⟨rfl, hA⟩

def ClonePost (w : World) (b c cap : Nat) (xs : List Ent) (e : Ending) (w' : World) : Prop :=
  ∃ b' c', e = .returned (.pointer (some ⟨b', 0, .none⟩)) ∧ Pt w' b' c' cap xs ∧ Pt w' b c cap xs ∧ w.heap.size ≤ b' ∧ w.heap.size ≤ c' ∧ Kept (Only c) w w'

set_option maxHeartbeats 2000000 in
theorem clone_some (b c cap : Nat) (xs : List Ent) (w : World) (h : Pt w b c cap xs) (hc : xs.length ≤ cap) (hm : cap ≤ 4) :
    Calls Try.prog 11 #[.pointer (some ⟨b, 0, .none⟩)] w (ClonePost w b c cap xs) := by
  have h1 := h.1
  have hcap := run_cap w c cap xs h.2.1
  go_enter Try.func11, Try.ntmps11
  go_wp2_with fail
  refine (none_some _ _ _ h1).mono ?_
  rintro e w' ⟨rfl, rfl⟩
  go_wp2_with fail
  refine (new_is cap cap _ (by simp [near]; omega)).mono ?_
  rintro e w1 ⟨b', c', rfl, hp1, hc1, hb1, hk1⟩
  have hq1 := h.kept hk1 id id
  clear hcap h1
  go_wp2_with fail
  refine (all_some b c cap xs _ hq1 hc hm).mono ?_
  rintro e w2 ⟨v, rfl, hs2, hq2, hk2⟩
  have hcl := h.2.1.lt
  have hbl := h.2.2.1
  have hp2 := hp1.kept hk2 (by simp [Only]; omega) (by simp [Only]; omega)
  have hb2 := hp1.2.2.1
  have hc2 := hp1.2.1.lt
  have hK2 : Kept (Only c) w' w2 := (hk1.mono (fun _ _ f => f.elim)).trans hk2 (fun _ _ h => h)
  have hvb : ∀ g, v.ownBlock = some g → w1.heap.size ≤ g := fun g hg => (hs2.lt g hg).1
  obtain ⟨_, ao, ca, rfl, hca, hma, hnone, hR⟩ := hs2.rd
  unfold maxLen at hma
  clear hk1 hk2 hs2 hq1 hp1
  go_wp2_with fail
  go_loopw [17] (fun i wr => ∃ k : Nat, k ≤ xs.length ∧ i = .int .i64 k ∧ Pt wr b' c' cap (xs.take k) ∧ Kept (Only c') w2 wr) (fun i wr => xs.length - (intOf i).toNat)
  case atStart => exact ⟨0, by omega, rfl, by simpa using hp2, Kept.refl _ _⟩
  case round =>
    obtain ⟨k, hk, rfl, hp, hkk⟩ := hrel
    by_cases hlt : k < xs.length
    · obtain ⟨g, o, rfl, hgl, hR1⟩ := hR (by omega)
      have hgb := hvb g rfl
      have hcs := ent_cells hR1 k hlt
      have hkc : ∀ i, wr.cell? ⟨g, i, none⟩ = w2.cell? ⟨g, i, none⟩ := fun i => hkk.cell (p := ⟨g, i, none⟩) hgl (by simp [Only]; omega)
      simp only [← hkc] at hcs
      have htk := Lib.hid (show xs.take k ++ [xs[k]] = xs.take (k + 1) by rw [List.take_succ_eq_append_getElem hlt])
      have hlen : (xs.take k).length < cap := by simp; omega
      clear hkc hR1 hR
      generalize xs[k] = x at *
      obtain ⟨xk, xi, xj, xn, xc, xg, xgen, xpc⟩ := x
      obtain ⟨a0, a1, a2, a3, a4, a5, a6, a7⟩ := hcs
      have hkA : Kept (Only c') w2 (wr.alloc (.cells #[.int .i64 xk, .int .i64 xi, .int .i64 xj, .int .i64 xn, .int .i64 xc, .int .i64 xg, .int .i64 xgen, .int .i64 xpc] 35)) := hkk.alloc _
      have hpA : Pt (wr.alloc (.cells #[.int .i64 xk, .int .i64 xi, .int .i64 xj, .int .i64 xn, .int .i64 xc, .int .i64 xg, .int .i64 xgen, .int .i64 xpc] 35)) b' c' cap (xs.take k) := hp.kept ((Kept.refl No wr).alloc _) id id
      go_wp2_with fail
      refine (push_yes b' c' cap _ ⟨xk, xi, xj, xn, xc, xg, xgen, xpc⟩ _ hpA hlen).mono ?_
      rintro e w3 ⟨rfl, hp3, hk3⟩
      go_wp2_with fail
      go_roundw
      case rel => exact ⟨k + 1, by omega, by go_num, by rw [← htk.out]; exact hp3, hkA.trans hk3 (fun _ _ h => h)⟩
      case measure => simp [intOf]; omega
    · obtain rfl : k = xs.length := by omega
      rw [List.take_length] at hp
      clear hR
      go_wp2_with fail
      go_ret
      exact ⟨b', c', rfl, hp, hq2.kept hkk (by simp [Only]; omega) (by simp [Only]; omega), by omega, by omega, hK2.trans (T := Only c') hkk (fun k hk h => by simp [Only] at h; omega)⟩

/-! ### the statements' helper 'at', and alive -/
theorem at_is (n : Int) (w : World) : Calls Try.prog 18 #[.int .i64 n] w fun e w' => e = .returned (Ent.mk 1 0 0 n 0 0 0 0).v ∧ Kept No w w' := by
  go_enter Try.func18, Try.ntmps18
  go_wp2_with fail
  exact bodyPost_ret (v := .agg #[.int .i64 1, .int .i64 0, .int .i64 0, .int .i64 n, .int .i64 0, .int .i64 0, .int .i64 0, .int .i64 0]) (by simp [results, Try.results18, go_sem]) rfl ⟨rfl, (Kept.refl No w).alloc _⟩
end Go.Proofs.Ytgjoofjkhcnekaa.Buf
