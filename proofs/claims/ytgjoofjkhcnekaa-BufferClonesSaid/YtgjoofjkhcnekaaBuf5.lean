/-
  Entries, held against each other; the last entry of a place in a list: last; in a buffer: Last.
-/
import Derived.Test.YtgjoofjkhcnekaaBuf4
set_option linter.unusedVariables false
namespace Go.Proofs.Ytgjoofjkhcnekaa.Buf
open Go.RowKit Go.Conc Go.Proofs.Ytgjoofjkhcnekaa.Chan Go.Proofs.Ytgjoofjkhcnekaa.Own

theorem ecs_at (xs : List Ent) : ∀ (k : Nat) (hk : k < xs.length) (i : Nat), i < 8 → (ecs xs)[k * 8 + i]? = (vals xs[k].zs)[i]? := by
  induction xs with
  | nil => intro k hk; simp at hk
  | cons e xs ih =>
    intro k hk i hi
    rw [ecs_cons]
    have hl : (vals e.zs).length = 8 := by simp [vals, Ent.zs]
    cases k with
    | zero => rw [List.getElem?_append_left (by omega)]; simp
    | succ k =>
      rw [List.getElem?_append_right (by omega), hl, show (k + 1) * 8 + i - 8 = k * 8 + i by omega, ih k (by simpa using hk) i hi]
      simp

/-- The eight cells of entry k. -/
theorem ent_cells {w : World} {g o : Nat} {xs : List Ent} (hR : ∀ j u, (ecs xs)[j]? = some u → w.cell? ⟨g, o + j, none⟩ = some u) (k : Nat) (hk : k < xs.length) :
    w.cell? ⟨g, o + k * 8, none⟩ = some (.int .i64 xs[k].k) ∧ w.cell? ⟨g, o + k * 8 + 1, none⟩ = some (.int .i64 xs[k].i) ∧ w.cell? ⟨g, o + k * 8 + 2, none⟩ = some (.int .i64 xs[k].j) ∧ w.cell? ⟨g, o + k * 8 + 3, none⟩ = some (.int .i64 xs[k].n) ∧
    w.cell? ⟨g, o + k * 8 + 4, none⟩ = some (.int .i64 xs[k].c) ∧ w.cell? ⟨g, o + k * 8 + 5, none⟩ = some (.int .i64 xs[k].g) ∧ w.cell? ⟨g, o + k * 8 + 6, none⟩ = some (.int .i64 xs[k].gen) ∧ w.cell? ⟨g, o + k * 8 + 7, none⟩ = some (.int .i64 xs[k].pc) := by
  have h : ∀ i, i < 8 → ∀ u, (vals xs[k].zs)[i]? = some u → w.cell? ⟨g, o + k * 8 + i, none⟩ = some u := fun i hi u hu => by
    rw [Nat.add_assoc]; exact hR _ _ (by rw [ecs_at xs k hk i hi]; exact hu)
  exact ⟨h 0 (by omega) _ rfl, h 1 (by omega) _ rfl, h 2 (by omega) _ rfl, h 3 (by omega) _ rfl, h 4 (by omega) _ rfl, h 5 (by omega) _ rfl, h 6 (by omega) _ rfl, h 7 (by omega) _ rfl⟩

set_option maxHeartbeats 1000000 in
theorem entries_same (va vb : Value) (xs : List Ent) (w : World) (ha : Rd w 8 va xs.length (ecs xs)) (hb : Rd w 8 vb xs.length (ecs xs)) :
    Calls Try.prog 21 #[va, vb] w fun e w' => e = .returned (.bool true) ∧ ∃ k, w' = w.drewN k := by
  obtain ⟨_, aa, ca, rfl, hca, hma, _, hA⟩ := ha
  obtain ⟨_, ab, cb, rfl, hcb, hmb, _, hB⟩ := hb
  unfold maxLen at hma hmb
  by_cases h0 : 0 < xs.length
  · obtain ⟨ga, oa, rfl, _, hA1⟩ := hA h0
    obtain ⟨gb, ob, rfl, _, hB1⟩ := hB h0
    clear hA hB
    have HA := Lib.hid (ent_cells hA1)
    have HB := Lib.hid (ent_cells hB1)
    clear hA1 hB1
    go_enter Try.func21, Try.ntmps21
    go_wp2_with fail
    go_loopw [5] (fun i wr => ∃ k : Nat, k ≤ xs.length ∧ i = .int .i64 k ∧ ∃ m, wr = w.drewN m) (fun i wr => xs.length - (intOf i).toNat)
    case atStart => exact ⟨0, by omega, rfl, 0, rfl⟩
    case round =>
      obtain ⟨k, hk, rfl, m, rfl⟩ := hrel
      by_cases hlt : k < xs.length
      · have hx := hlt
        have cca := HA.out k hx
        have ccb := HB.out k hx
        have hne := fun w => ne_ent w xs[k] xs[k]
        simp only [same_self, Bool.not_true, Ent.v] at hne
        generalize xs[k] = x at cca ccb hne
        obtain ⟨xk, xi, xj, xn, xc, xg, xgen, xpc⟩ := x
        obtain ⟨a0, a1, a2, a3, a4, a5, a6, a7⟩ := cca
        obtain ⟨b0, b1, b2, b3, b4, b5, b6, b7⟩ := ccb
        clear hx
        go_wp2_with fail
        go_quiet (fail)
        go_wp2
        exact ⟨⟨k + 1, by omega, by go_num, _, rfl⟩, by simp [intOf]; omega⟩
      · go_wp2
        go_ret
        exact ⟨rfl, m, rfl⟩
  · generalize hn : xs.length = n at *
    have Hn := Lib.hid hn
    clear hn hA hB
    go_enter Try.func21, Try.ntmps21
    go_wp2_with fail
    go_loopw [5] (fun i wr => i = .int .i64 0 ∧ wr = w) (fun i wr => 0)
    case atStart => exact ⟨rfl, rfl⟩
    case round =>
      obtain ⟨rfl, rfl⟩ := hrel
      go_wp2
      go_ret
      exact ⟨rfl, 0, rfl⟩

/-- Is it an entry of the place and the life? -/
def hit (e : Ent) (k i j gen : Int) : Bool := (e.k == k && (e.i == i && (e.j == j && true))) && e.gen == gen
/-- The last one. -/
def lastOf (xs : List Ent) (k i j gen : Int) : Option Ent := xs.foldl (fun r e => if hit e k i j gen then some e else r) none
theorem lastOf_snoc (xs : List Ent) (e : Ent) (k i j gen : Int) : lastOf (xs ++ [e]) k i j gen = if hit e k i j gen then some e else lastOf xs k i j gen := by
  simp [lastOf]

set_option maxHeartbeats 1000000 in
/-- last: the index of the last one, or -1. -/
theorem last_is (v : Value) (xs : List Ent) (pk pi pj gen : Int) (w : World) (hv : Rd w 8 v xs.length (ecs xs)) :
    Calls Try.prog 20 #[v, .agg #[.int .i64 pk, .int .i64 pi, .int .i64 pj], .int .i64 gen] w fun e w' =>
      ((e = .returned (.int .i64 (-1)) ∧ lastOf xs pk pi pj gen = none) ∨ (∃ n x, e = .returned (.int .i64 ((n : Nat) : Int)) ∧ xs[n]? = some x ∧ lastOf xs pk pi pj gen = some x)) ∧ Kept No w w' := by
  obtain ⟨_, ao, ca, rfl, hca, hma, _, hR⟩ := hv
  unfold maxLen at hma
  go_enter Try.func20, Try.ntmps20
  go_wp2_with fail
  go_loopw [7] (fun i wr => ∃ k : Nat, k ≤ xs.length ∧ i = .int .i64 ((k : Int) - 1) ∧ lastOf xs pk pi pj gen = lastOf (xs.take k) pk pi pj gen ∧ ∃ m, wr = (w.alloc (.cells #[.int .i64 pk, .int .i64 pi, .int .i64 pj] 31)).drewN m) (fun i wr => ((intOf i) + 1).toNat)
  case atStart => exact ⟨xs.length, by omega, by simp, by rw [List.take_length], 0, rfl⟩
  case round =>
    obtain ⟨k, hk, rfl, hlast, m, rfl⟩ := hrel
    cases k with
    | zero =>
      go_wp2_with fail
      go_ret
      exact ⟨.inl ⟨rfl, by rw [hlast]; rfl⟩, ((Kept.refl No w).alloc _).drewN m⟩
    | succ n =>
      rw [show ((n + 1 : Nat) : Int) - 1 = (n : Int) by omega]
      have hx : n < xs.length := hk
      obtain ⟨g, o, rfl, hgl, hR1⟩ := hR (by omega)
      have hcs := ent_cells hR1 n hx
      have hxs : xs[n]? = some xs[n] := List.getElem?_eq_getElem hx
      have hsn : lastOf (xs.take (n + 1)) pk pi pj gen = if hit xs[n] pk pi pj gen then some xs[n] else lastOf (xs.take n) pk pi pj gen := by
        rw [List.take_succ_eq_append_getElem hx, lastOf_snoc]
      have HS := Lib.hid hsn
      have HL := Lib.hid hlast
      have HX := Lib.hid hxs
      clear hsn hlast hxs hR hR1
      generalize xs[n] = x at hcs HS HX
      have hA := (Kept.refl No w).alloc (.cells #[.int .i64 pk, .int .i64 pi, .int .i64 pj] 31)
      have hcs' : ∀ i u, w.cell? ⟨g, o + n * 8 + i, none⟩ = some u → (w.alloc (.cells #[.int .i64 pk, .int .i64 pi, .int .i64 pj] 31)).cell? ⟨g, o + n * 8 + i, none⟩ = some u := fun i u hu => (hA.cell (p := ⟨g, o + n * 8 + i, none⟩) hgl id).trans hu
      obtain ⟨xk, xi, xj, xn, xc, xg, xgen, xpc⟩ := x
      obtain ⟨a0, a1, a2, a3, a4, a5, a6, a7⟩ := hcs
      have b0 := hcs' 0 _ a0
      have b1 := hcs' 1 _ a1
      have b2 := hcs' 2 _ a2
      have b6 := hcs' 6 _ a6
      rw [Nat.add_zero] at b0
      clear a0 a1 a2 a3 a4 a5 a6 a7 hcs'
      have hq := fun w => eq_place w xk xi xj pk pi pj
      by_cases hp : (xk == pk && (xi == pi && (xj == pj && true))) = true
      · rw [hp] at hq
        by_cases hg : xgen = gen
        · have hgb : (xgen == gen) = true := beq_iff_eq.2 hg
          have hh : hit ⟨xk, xi, xj, xn, xc, xg, xgen, xpc⟩ pk pi pj gen = true := by simp only [hit, hp, hgb, Bool.and_self]
          have HH := Lib.hid hh
          clear hh hp hg
          go_wp2_with fail
          go_quiet (fail)
          go_wp2
          go_ret
          exact ⟨.inr ⟨n, _, rfl, HX.out, by rw [HL.out, HS.out, HH.out]; rfl⟩, (hA.drewN _).drewN _⟩
        · have hgb : (xgen == gen) = false := beq_eq_false_iff_ne.2 hg
          have hh : hit ⟨xk, xi, xj, xn, xc, xg, xgen, xpc⟩ pk pi pj gen = false := by simp only [hit, hp, hgb, Bool.and_false]
          have HH := Lib.hid hh
          clear hh hp hg
          go_wp2_with fail
          go_quiet (fail)
          go_wp2
          exact ⟨⟨n, by omega, by go_num, by rw [HL.out, HS.out, HH.out]; rfl, _, rfl⟩, by simp [intOf]⟩
      · have hp' : (xk == pk && (xi == pi && (xj == pj && true))) = false := by simpa using hp
        rw [hp'] at hq
        have hh : hit ⟨xk, xi, xj, xn, xc, xg, xgen, xpc⟩ pk pi pj gen = false := by simp only [hit, hp', Bool.false_and]
        have HH := Lib.hid hh
        clear hh hp hp'
        go_wp2_with fail
        go_quiet (fail)
        go_wp2
        exact ⟨⟨n, by omega, by go_num, by rw [HL.out, HS.out, HH.out]; rfl, _, rfl⟩, by simp [intOf]⟩
end Go.Proofs.Ytgjoofjkhcnekaa.Buf
