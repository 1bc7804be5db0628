/-
  A key put into its place among others: the library's Insert.
-/
import Derived.Test.YtnggbfdnlmkklaaDoorKeyNil
import Derived.Test.YtnggbfdnlmkklaaDoorCopy
import Derived.Deep.RegionLaw
set_option linter.unusedVariables false
namespace Go.Proofs.YtnggbfdnlmkklaaDoor.Line
open Go.RowKit Go.Sort Go.Proofs.YtnggbfdnlmkklaaDoor.Own Go.Proofs.YtnggbfdnlmkklaaDoor.Conv Go.Proofs.YtnggbfdnlmkklaaDoor.Calm

theorem ins_at (xs : List K3) (k : K3) (i : Nat) (hi : i ≤ xs.length) (j : Nat) : (keyV (xs.take i ++ k :: xs.drop i))[j]? = if j < i * 3 then (keyV xs)[j]? else if j < (i + 1) * 3 then (keyV [k])[j - i * 3]? else (keyV (xs.drop i))[j - (i + 1) * 3]? := by
  have e1 : keyV (xs.take i ++ k :: xs.drop i) = keyV (xs.take i) ++ (keyV [k] ++ keyV (xs.drop i)) := by
    rw [keyV_app, show k :: xs.drop i = [k] ++ xs.drop i from rfl, keyV_app]
  have e2 : keyV xs = keyV (xs.take i) ++ keyV (xs.drop i) := by rw [← keyV_app, List.take_append_drop]
  have hl : (keyV (xs.take i)).length = i * 3 := by rw [keyV_len, List.length_take, Nat.min_eq_left hi]
  have hk : (keyV [k]).length = 3 := rfl
  rw [e1]
  by_cases h1 : j < i * 3
  · rw [if_pos h1, e2, List.getElem?_append_left (by omega), List.getElem?_append_left (by omega)]
  · rw [if_neg h1, List.getElem?_append_right (by omega), hl]
    by_cases h2 : j < (i + 1) * 3
    · rw [if_pos h2, List.getElem?_append_left (by omega)]
    · rw [if_neg h2, List.getElem?_append_right (by omega), hk, show j - i * 3 - 3 = j - (i + 1) * 3 by omega]
theorem put_a (cur : Array Value) (o n i : Nat) (xs : List K3) (k : K3) (hx : ∀ j, j < i * 3 → cur[o + j]? = (keyV xs)[j]?) (hsz : o + (n + 1) * 3 ≤ cur.size) (hxl : xs.length = n) (hi : i ≤ n) (j : Nat) (hj : j < (n + 1) * 3) :
    (putAll (putAll cur (o + (i + 1) * 3) (keyV (xs.drop i))) (o + i * 3) (keyV [k]))[o + j]? = (keyV (xs.take i ++ k :: xs.drop i))[j]? := by
  have hd : (keyV (xs.drop i)).length = (n - i) * 3 := by rw [keyV_len, List.length_drop, hxl]
  have hk : (keyV [k]).length = 3 := rfl
  rw [ins_at xs k i (by omega) j]
  by_cases h1 : j < i * 3
  · rw [if_pos h1, putAll_out _ _ _ _ (by omega), putAll_out _ _ _ _ (by omega), hx j h1]
  · rw [if_neg h1]
    by_cases h2 : j < (i + 1) * 3
    · have := putAll_in (keyV [k]) (putAll cur (o + (i + 1) * 3) (keyV (xs.drop i))) (o + i * 3) (j - i * 3) (by rw [size_putAll]; omega) (by omega)
      rw [show o + i * 3 + (j - i * 3) = o + j by omega] at this
      rw [if_pos h2, this]
    · have := putAll_in (keyV (xs.drop i)) cur (o + (i + 1) * 3) (j - (i + 1) * 3) (by omega) (by omega)
      rw [show o + (i + 1) * 3 + (j - (i + 1) * 3) = o + j by omega] at this
      rw [if_neg h2, putAll_out _ _ _ _ (by omega), this]
theorem put_b (cur : Array Value) (o n i : Nat) (xs : List K3) (k : K3) (hx : ∀ j, j < i * 3 → cur[o + j]? = (keyV xs)[j]?) (hsz : o + (n + 1) * 3 ≤ cur.size) (hxl : xs.length = n) (hi : i ≤ n) (j : Nat) (hj : j < (n + 1) * 3) :
    (putAll (putAll cur (o + i * 3) (keyV [k])) (o + (i + 1) * 3) (keyV (xs.drop i)))[o + j]? = (keyV (xs.take i ++ k :: xs.drop i))[j]? := by
  have hd : (keyV (xs.drop i)).length = (n - i) * 3 := by rw [keyV_len, List.length_drop, hxl]
  have hk : (keyV [k]).length = 3 := rfl
  rw [ins_at xs k i (by omega) j]
  by_cases h1 : j < i * 3
  · rw [if_pos h1, putAll_out _ _ _ _ (by omega), putAll_out _ _ _ _ (by omega), hx j h1]
  · rw [if_neg h1]
    by_cases h2 : j < (i + 1) * 3
    · have := putAll_in (keyV [k]) cur (o + i * 3) (j - i * 3) (by omega) (by omega)
      rw [show o + i * 3 + (j - i * 3) = o + j by omega] at this
      rw [if_pos h2, putAll_out _ _ _ _ (by omega), this]
    · have := putAll_in (keyV (xs.drop i)) (putAll cur (o + i * 3) (keyV [k])) (o + (i + 1) * 3) (j - (i + 1) * 3) (by rw [size_putAll]; omega) (by omega)
      rw [show o + (i + 1) * 3 + (j - (i + 1) * 3) = o + j by omega] at this
      rw [if_neg h2, this]

set_option maxRecDepth 100000 in
set_option maxHeartbeats 8000000 in
theorem insert_is (w : World) (B : Nat) (v : Value) (n : Nat) (xs : List K3) (hs : Seg w B 23 3 v n (keyV xs)) (hB : B ≤ w.heap.size) (hn : n ≤ 1000) (i : Nat) (hi : i < n) (k : K3) (vb : Nat) (hvb : Box w vb #[.int .i64 k.1, .int .i64 k.2.1, .int .i64 k.2.2] 23) (hne : v.ownBlock ≠ some vb) :
    Calls Tryd.prog 32 #[v, .int .i64 i, .slice (some ⟨vb, 0, none⟩) 1 1] w fun e w' => ∃ v', e = .returned v' ∧ Seg w' B 23 3 v' (n + 1) (keyV (xs.take i ++ k :: xs.drop i)) ∧ Kept (fun g => v.ownBlock = some g) w w' := by
  obtain ⟨hl, ⟨_, h0⟩ | ⟨g, o, cap, cur, rfl, hBg, hblk, hnc, hcm, hcs, hx⟩⟩ := hs
  · omega
  have hvg : vb ≠ g := fun e => hne (by rw [e]; rfl)
  rw [keyV_len] at hl
  have hxl : xs.length = n := by omega
  unfold maxLen at hcm
  have hsrc : ∀ j u, (keyV xs)[j]? = some u → w.cell? ⟨g, o + j, none⟩ = some u := fun j u hu => by
    have hj : j < n * 3 := by
      have := (List.getElem?_eq_some_iff.1 hu).1
      rw [keyV_len] at this
      omega
    rw [hblk.cell, hx j hj]
    exact hu
  have b0 : (i : Int) ≤ (n : Int) := by omega
  have b1 : ¬ ((i : Int) = (n : Int)) := by omega
  have HS := Lib.hid hsrc
  have HX := Lib.hid hx
  have HL := Lib.hid hxl
  clear hsrc hx hxl hl
  obtain ⟨i0, hi0, hz0, hz1, hz2⟩ := info_parts info_key
  have hsz : (Tryd.prog.info? 23).map (·.size) = some 3 := by kernel_rfl
  have hck : ∀ j v, (keyV [k])[j]? = some v → w.cell? ⟨vb, 0 + j, none⟩ = some v := fun j v hj => by
    rw [Nat.zero_add, hvb.cell]
    have hj3 : j < 3 := (List.getElem?_eq_some_iff.1 hj).1
    have : j = 0 ∨ j = 1 ∨ j = 2 := by omega
    rcases this with rfl | rfl | rfl <;> exact hj
  have h1k : ∀ v ∈ keyV [k], v.oneCell' = true := one_ints _
  have h1d : ∀ v ∈ keyV (xs.drop i), v.oneCell' = true := one_ints _
  have hdl : (keyV (xs.drop i)).length = (n - i) * 3 := by rw [keyV_len, List.length_drop, HL.out]
  have hkl : (keyV [k]).length = 3 := rfl
  have hdrop : ∀ j v, (keyV (xs.drop i))[j]? = some v → (keyV xs)[i * 3 + j]? = some v := fun j v hj => by
    have e : keyV xs = keyV (xs.take i) ++ keyV (xs.drop i) := by rw [← keyV_app, List.take_append_drop]
    rw [e, List.getElem?_append_right (by rw [keyV_len, List.length_take]; omega), keyV_len, List.length_take, show i * 3 + j - min i xs.length * 3 = j by have := HL.out; rw [Nat.min_eq_left (by omega)]; omega]
    exact hj
  by_cases hroom : n + 1 ≤ cap
  · have hov : ∀ lb cb, (callFunc 40 #[.slice (some ⟨vb, 0, none⟩) 1 1, .slice (some ⟨g, o + (i + 1) * 3, none⟩) lb cb]).run Tryd.prog w = .ok (.value (.bool false)) w := fun lb cb => by
      rw [run_callFunc_extern Tryd.func40 (by kernel_rfl) (by kernel_rfl) (by kernel_rfl) (e := Extern.SlicesOverlaps.overlaps #[34, 34] #[4]) (by kernel_rfl),
        Lib.run_overlaps_apart w 34 4 23 Tryd.underlying34 3 (fun w => by simp [Go.sizeOf, typeInfo, hi0, hz1]) ⟨vb, 0, none⟩ ⟨g, o + (i + 1) * 3, none⟩ 1 1 lb cb hvg _ _ _ _ hvb.shape hblk.shape (by omega) (hvb.frozen 0) (hvb.frozen _)]
      rfl
    have hfz : ∀ j, j < (n + 1) * 3 → w.frozen? ⟨g, o + j, none⟩ = false := fun j hj => hblk.frozen _ (by omega)
    have hsp : ∀ j, j < (n + 1) * 3 → (w.cell? ⟨g, o + j, none⟩).isSome = true := fun j hj => by
      rw [hblk.cell, Array.getElem?_eq_getElem (by omega)]
      rfl
    have hcp1 : ∀ ty dc sc, (Builtin.copy_ #[34, 34] ty #[.slice (some ⟨g, o + (i + 1) * 3, none⟩) (n - i) dc, .slice (some ⟨g, o + i * 3, none⟩) (n + 1 - i) sc]).run Tryd.prog w.drew = .ok (goInt (Nat.min (n + 1 - i) (n - i))) (w.drew.setCells g (o + (i + 1) * 3) (keyV (xs.drop i))) := fun ty dc sc =>
      run_copy_size w.drew _ _ ty 23 3 g (o + (i + 1) * 3) (n - i) dc ⟨g, o + i * 3, none⟩ (n + 1 - i) sc (keyV (xs.drop i)) Tryd.underlying34 hsz (by rw [hdl]; simp only [Nat.min_def]; split <;> omega)
        (fun j v hj => by rw [Addr.add_lit, Nat.add_assoc]; exact HS.out _ v (hdrop j v hj))
        (fun j hj => by rw [Nat.add_assoc]; exact hsp _ (by omega)) (fun j hj => by rw [Nat.add_assoc]; exact hfz _ (by omega)) h1d
    obtain ⟨W1, hW1⟩ : ∃ W1, W1 = w.drew.setCells g (o + (i + 1) * 3) (keyV (xs.drop i)) := ⟨_, rfl⟩
    have hb1 : Blk W1 g (putAll cur (o + (i + 1) * 3) (keyV (xs.drop i))) 23 := by rw [hW1]; exact blk_setCells _ _ _ _ _ _ hblk
    have hcp2 : ∀ ty dc, (Builtin.copy_ #[34, 34] ty #[.slice (some ⟨g, o + i * 3, none⟩) (n + 1 - i) dc, .slice (some ⟨vb, 0, none⟩) 1 1]).run Tryd.prog W1 = .ok (goInt (Nat.min 1 (n + 1 - i))) (W1.setCells g (o + i * 3) (keyV [k])) := fun ty dc =>
      run_copy_size W1 _ _ ty 23 3 g (o + i * 3) (n + 1 - i) dc ⟨vb, 0, none⟩ 1 1 (keyV [k]) Tryd.underlying34 hsz (by rw [hkl]; simp only [Nat.min_def]; split <;> omega)
        (fun j v hj => by
          rw [Addr.add_lit, hW1, World.cell?_setCells_out g _ _ _ _ (fun h _ => absurd h hvg)]
          exact hck j v hj)
        (fun j hj => by rw [hb1.cell, Array.getElem?_eq_getElem (by rw [size_putAll]; omega)]; rfl) (fun j hj => hb1.frozen _ (by rw [size_putAll]; omega)) h1k
    rw [← hW1] at hcp1
    have HW1 := Lib.hid hW1
    clear hW1
    have hw1 : IntKind.i64.wrap ((i : Int) + 1) = (i : Int) + 1 := by rw [IntKind.wrap_i64]; omega
    have htn : ((i : Int) + 1).toNat = i + 1 := by omega
    have hq1 : (0 : Int) ≤ (i : Int) + 1 := by omega
    have hq2 : ¬ (cap = i + 1) := by omega
    have hq3 : (i : Int) ≤ (n : Int) + 1 := by omega
    have hq4 : ¬ (cap = i) := by omega
    have hq5 : (n : Int) + 1 ≤ (cap : Int) := by omega
    go_enter Tryd.func32, Tryd.ntmps32
    go_wp2_with (simp only [hov])
    go_region_law (refine step_copy_runI rfl _ _ 34 34 rfl _ _ (by simp [Act.eval, Act.put]) (by simp [Act.eval, Act.put]) (hcp1 _ _ _) ?_)
    go_wp2_with (at_builtin; refine wpList_copy_runI _ rfl _ _ 34 34 rfl _ _ rfl rfl (hcp2 _ _) ?_)
    go_ret
    have hb2 := blk_setCells (keyV [k]) (o + i * 3) W1 g _ 23 hb1
    have kA : Kept (fun q => some g = some q) w W1 := by
      rw [HW1.out]
      exact ((Kept.refl _ w).drew).trans (kept_cells (keyV (xs.drop i)) (o + (i + 1) * 3) w.drew g) (fun _ _ e => e)
    have kB := kA.trans (kept_cells (keyV [k]) (o + i * 3) W1 g) (fun _ _ e => e)
    refine ⟨_, rfl, ⟨?_, .inr ⟨g, o, cap, _, rfl, hBg, hb2, by omega, by unfold maxLen; omega, by rw [size_putAll, size_putAll]; omega, fun j hj => put_a cur o n i xs k (fun j hj => HX.out j (by omega)) (by omega) HL.out (by omega) j hj⟩⟩, kB⟩
    rw [keyV_len]
    have := HL.out
    simp
    omega
  · obtain rfl : cap = n := by omega
    have hbw := hblk.lt
    have hvw := hvb.lt
    have hik : i + (cap + 1 - i) = cap + 1 := by omega
    have hkk : (cap : Int) + 1 - (i : Int) = ((cap + 1 - i : Nat) : Int) := by omega
    have hold : (Builtin.firstCells i0.size i (.slice (some ⟨g, o, none⟩) i cap)).run Tryd.prog w.drew = .ok (keyV (xs.take i)).toArray w.drew := by
      rw [hz1]
      refine run_firstCells_some w.drew 3 i ⟨g, o, none⟩ i cap (keyV (xs.take i)) (by rw [keyV_len, List.length_take]; have := HL.out; rw [Nat.min_eq_left (by omega)]) (fun j v hj => ?_)
      rw [Addr.add_lit]
      refine HS.out j v ?_
      have hjl := (List.getElem?_eq_some_iff.1 hj).1
      have e2 : keyV xs = keyV (xs.take i) ++ keyV (xs.drop i) := by rw [← keyV_app, List.take_append_drop]
      rw [e2, List.getElem?_append_left hjl]
      exact hj
    obtain ⟨G, hG⟩ : ∃ G, G = grownCap w (cap + 1) cap 23 := ⟨_, rfl⟩
    obtain ⟨ROW, hROW⟩ : ∃ ROW : Array Value, ROW = (keyV (xs.take i)).toArray ++ Builtin.zeroCells (Value.agg #[.int .i64 0, .int .i64 0, .int .i64 0]).cells (cap + 1 - i) ++ Builtin.zeroCells (Value.agg #[.int .i64 0, .int .i64 0, .int .i64 0]).cells (G - (cap + 1)) := ⟨_, rfl⟩
    have hrz : ∀ ty, (Builtin.append_ #[34, 3] ty #[.slice (some ⟨g, o, none⟩) i cap, .int .i64 ((cap : Int) + 1 - (i : Int))]).run Tryd.prog w = .ok (.slice (some ⟨w.heap.size, 0, none⟩) (cap + 1) G) (w.drew.alloc (.cells ROW 23)) := fun ty => by
      have h := Lib.run_append_grow_zeros w 34 3 ty 23 i0 _ .i64 .i64 Tryd.underlying34 Tryd.underlying3 hi0 hz0 (some ⟨g, o, none⟩) i cap (keyV (xs.take i)) hold (cap + 1 - i) (by omega) (by omega) (by omega) (by omega) (by rw [hz2]; omega) (by rw [hz2, hik]; exact growslice_fits (by omega) (by omega))
      rw [hik] at h
      rw [hkk, hROW, hG]
      exact h
    have hGn : cap + 1 ≤ G := by rw [hG]; exact grownCap_ge w _ _ _
    have hRs : ROW.size = G * 3 := by
      rw [hROW]
      simp [Builtin.zeroCells, Value.cells, keyV_len]
      have := HL.out
      omega
    have hRx : ∀ j, j < i * 3 → ROW[0 + j]? = (keyV xs)[j]? := fun j hj => by
      have e2 : keyV xs = keyV (xs.take i) ++ keyV (xs.drop i) := by rw [← keyV_app, List.take_append_drop]
      have hl : (keyV (xs.take i)).length = i * 3 := by rw [keyV_len, List.length_take]; have := HL.out; rw [Nat.min_eq_left (by omega)]
      rw [Nat.zero_add, hROW, e2, List.getElem?_append_left (by omega), Array.append_assoc, Array.getElem?_append_left (by simpa using (by omega))]
      simp
    obtain ⟨W1, hW1⟩ : ∃ W1, W1 = w.drew.alloc (.cells ROW 23) := ⟨_, rfl⟩
    rw [← hW1] at hrz
    have hb1 : Blk W1 w.heap.size ROW 23 := by rw [hW1]; exact Blk.plain (heap_alloc_new w.drew _)
    have k1 : Kept No w W1 := by rw [hW1]; exact ((Kept.refl No w).drew).alloc _
    have hcpA : ∀ ty dc, (Builtin.copy_ #[34, 34] ty #[.slice (some ⟨w.heap.size, i * 3, none⟩) (cap + 1 - i) dc, .slice (some ⟨vb, 0, none⟩) 1 1]).run Tryd.prog W1 = .ok (goInt (Nat.min 1 (cap + 1 - i))) (W1.setCells w.heap.size (i * 3) (keyV [k])) := fun ty dc =>
      run_copy_size W1 _ _ ty 23 3 w.heap.size (i * 3) (cap + 1 - i) dc ⟨vb, 0, none⟩ 1 1 (keyV [k]) Tryd.underlying34 hsz (by rw [hkl]; simp only [Nat.min_def]; split <;> omega)
        (fun j v hj => by
          rw [Addr.add_lit, k1.cell (p := ⟨vb, 0 + j, none⟩) hvw id]
          exact hck j v hj)
        (fun j hj => by rw [hb1.cell, Array.getElem?_eq_getElem (by omega)]; rfl) (fun j hj => hb1.frozen _ (by omega)) h1k
    obtain ⟨W2, hW2⟩ : ∃ W2, W2 = W1.setCells w.heap.size (i * 3) (keyV [k]) := ⟨_, rfl⟩
    rw [← hW2] at hcpA
    have hb2 : Blk W2 w.heap.size (putAll ROW (i * 3) (keyV [k])) 23 := by rw [hW2]; exact blk_setCells _ _ _ _ _ _ hb1
    have k2 : Kept No w W2 := k1.trans (by rw [hW2]; exact kept_cells (keyV [k]) (i * 3) W1 w.heap.size) (fun q hq e => by cases e; omega)
    have hcpB : ∀ ty dc sc, (Builtin.copy_ #[34, 34] ty #[.slice (some ⟨w.heap.size, (i + 1) * 3, none⟩) (cap - i) dc, .slice (some ⟨g, o + i * 3, none⟩) (cap - i) sc]).run Tryd.prog W2.drew = .ok (goInt (Nat.min (cap - i) (cap - i))) (W2.drew.setCells w.heap.size ((i + 1) * 3) (keyV (xs.drop i))) := fun ty dc sc =>
      run_copy_size W2.drew _ _ ty 23 3 w.heap.size ((i + 1) * 3) (cap - i) dc ⟨g, o + i * 3, none⟩ (cap - i) sc (keyV (xs.drop i)) Tryd.underlying34 hsz (by rw [hdl]; simp only [Nat.min_def]; split <;> omega)
        (fun j v hj => by
          rw [Addr.add_lit, k2.drew.cell (p := ⟨g, o + i * 3 + j, none⟩) hbw id, Nat.add_assoc]
          exact HS.out _ v (hdrop j v hj))
        (fun j hj => by
          have : (W2.drew.cell? ⟨w.heap.size, (i + 1) * 3 + j, none⟩) = _ := hb2.cell _
          rw [this, Array.getElem?_eq_getElem (by rw [size_putAll]; omega)]
          rfl) (fun j hj => hb2.frozen _ (by rw [size_putAll]; omega)) h1d
    have hG63 : G ≤ 9223372036854775807 := by
      have := grownCap_le_maxLen w (cap + 1) cap 23 (by unfold maxLen; omega)
      rw [← hG] at this
      unfold maxLen at this
      omega
    have hGi : ¬ (G = i) := by omega
    have hGim : ¬ (G = i + 1) := by omega
    have hci : ¬ (cap = i) := by omega
    have hw1 : IntKind.i64.wrap ((i : Int) + 1) = (i : Int) + 1 := by rw [IntKind.wrap_i64]; omega
    have htn : ((i : Int) + 1).toNat = i + 1 := by omega
    have hq1 : (0 : Int) ≤ (i : Int) + 1 := by omega
    have hq3 : (i : Int) ≤ (cap : Int) + 1 := by omega
    have hq5 : (cap : Int) < (cap : Int) + 1 := by omega
    have HG := Lib.hid hG
    have HRS := Lib.hid hRs
    have HRX := Lib.hid hRx
    clear hW1 hW2 hold hROW hG hRs hRx hkk hik
    go_enter Tryd.func32, Tryd.ntmps32
    go_wp2_with (first
      | (at_builtin; refine Lib.wpList_append_run _ rfl _ _ _ _ rfl _ _ rfl rfl _ _ (hrz _) ?_)
      | (at_builtin; refine wpList_copy_runI _ rfl _ _ 34 34 rfl _ _ rfl rfl (hcpA _ _) ?_))
    go_region_law (refine step_copy_runI rfl _ _ 34 34 rfl _ _ (by simp [Act.eval, Act.put]) (by simp [Act.eval, Act.put]) (hcpB _ _ _) ?_)
    go_wp2_with fail
    go_ret
    have hb2' : Blk W2.drew w.heap.size (putAll ROW (i * 3) (keyV [k])) 23 := hb2
    have hb3 := blk_setCells (keyV (xs.drop i)) ((i + 1) * 3) W2.drew w.heap.size _ 23 hb2'
    have k3 : Kept No w (W2.drew.setCells w.heap.size ((i + 1) * 3) (keyV (xs.drop i))) := k2.drew.trans (kept_cells (keyV (xs.drop i)) ((i + 1) * 3) W2.drew w.heap.size) (fun q hq e => by cases e; omega)
    have hrs := HRS.out
    refine ⟨_, rfl, ⟨?_, .inr ⟨w.heap.size, 0, G, _, rfl, hB, hb3, hGn, by unfold maxLen; omega, by rw [size_putAll, size_putAll]; omega, fun j hj => ?_⟩⟩, k3.mono (fun _ _ f => f.elim)⟩
    · rw [keyV_len]
      have := HL.out
      simp
      omega
    · have := put_b ROW 0 cap i xs k HRX.out (by omega) HL.out (by omega) j hj
      rwa [Nat.zero_add, Nat.zero_add] at this
end Go.Proofs.YtnggbfdnlmkklaaDoor.Line
