/-
  The walk of package buffer's Last: the word of the last entry of a place.
-/
import Derived.Test.YtgjoofjkhcnekaaBuf5
set_option linter.unusedVariables false
namespace Go.Proofs.Ytgjoofjkhcnekaa.Buf
open Go.RowKit Go.Conc Go.Proofs.Ytgjoofjkhcnekaa.Chan Go.Proofs.Ytgjoofjkhcnekaa.Own

theorem heap_set3 (w : World) (b : Nat) (x y z x' y' z' : Value) (t : TypeId) (f : Nat × Nat) (h : w.heap[b]? = some (.cells #[x, y, z] t f)) :
    (((w.setCell ⟨b, 0, none⟩ x').setCell ⟨b, 1, none⟩ y').setCell ⟨b, 2, none⟩ z').heap[b]? = some (.cells #[x', y', z'] t f) := by
  simp [World.setCell, Array.getElem?_modify, h]
theorem cells3 {w : World} {b : Nat} {x y z : Value} {t : TypeId} (h : w.heap[b]? = some (.cells #[x, y, z] t (0, 0))) :
    w.cell? ⟨b, 0, none⟩ = some x ∧ w.cell? ⟨b, 1, none⟩ = some y ∧ w.cell? ⟨b, 2, none⟩ = some z ∧ ∀ i, w.frozen? ⟨b, i, none⟩ = false := by
  simp [World.cell?, World.frozen?, h]
theorem heap_last (w : World) (o : Obj) : (w.alloc o).heap[w.heap.size]? = some o := heap_alloc_new w o

/-- The word of an entry, or the zero word. -/
def wordOf : Option Ent → Int × Int × Int
  | some e => (e.n, e.c, e.g)
  | none => (0, 0, 0)
def wv (p : Int × Int × Int) : Array Value := #[.int .i64 p.1, .int .i64 p.2.1, .int .i64 p.2.2]

set_option maxHeartbeats 2000000 in
theorem last_some (b c cap : Nat) (xs : List Ent) (pk pi pj gen : Int) (w : World) (h : Pt w b c cap xs) (hc : xs.length ≤ cap) (hm : cap ≤ 4) :
    Calls Try.prog 13 #[.pointer (some ⟨b, 0, .none⟩), .agg #[.int .i64 pk, .int .i64 pi, .int .i64 pj], .int .i64 gen] w fun e w' =>
      e = .returned (.tuple #[.agg (wv (wordOf (lastOf xs pk pi pj gen))), .bool (lastOf xs pk pi pj gen).isSome]) ∧ Pt w' b c cap xs ∧ Kept (Only c) w w' := by
  have hcl := h.2.1.lt
  have hbl := h.2.2.1
  have hA := (((Kept.refl No w).alloc (.cells #[.int .i64 pk, .int .i64 pi, .int .i64 pj] 31)).alloc (.cells #[.int .i64 0, .int .i64 0, .int .i64 0] 33)).alloc (.cells #[.int .i64 0, .int .i64 0, .int .i64 0] 33)
  have hp := h.kept hA id id
  have g0 : (((w.alloc (.cells #[.int .i64 pk, .int .i64 pi, .int .i64 pj] 31)).alloc (.cells #[.int .i64 0, .int .i64 0, .int .i64 0] 33)).alloc (.cells #[.int .i64 0, .int .i64 0, .int .i64 0] 33)).heap[w.heap.size]? = some (.cells #[.int .i64 pk, .int .i64 pi, .int .i64 pj] 31) := by
    rw [Below.heap_alloc _ _ _ (by simp; omega), Below.heap_alloc _ _ _ (by simp), heap_last]
  have g1 : (((w.alloc (.cells #[.int .i64 pk, .int .i64 pi, .int .i64 pj] 31)).alloc (.cells #[.int .i64 0, .int .i64 0, .int .i64 0] 33)).alloc (.cells #[.int .i64 0, .int .i64 0, .int .i64 0] 33)).heap[w.heap.size + 1]? = some (.cells #[.int .i64 0, .int .i64 0, .int .i64 0] 33) := by
    rw [Below.heap_alloc _ _ _ (by simp)]
    simpa using heap_last (w.alloc (.cells #[.int .i64 pk, .int .i64 pi, .int .i64 pj] 31)) (.cells #[.int .i64 0, .int .i64 0, .int .i64 0] 33)
  have g2 : (((w.alloc (.cells #[.int .i64 pk, .int .i64 pi, .int .i64 pj] 31)).alloc (.cells #[.int .i64 0, .int .i64 0, .int .i64 0] 33)).alloc (.cells #[.int .i64 0, .int .i64 0, .int .i64 0] 33)).heap[w.heap.size + 2]? = some (.cells #[.int .i64 0, .int .i64 0, .int .i64 0] 33) := by
    simpa using heap_last ((w.alloc (.cells #[.int .i64 pk, .int .i64 pi, .int .i64 pj] 31)).alloc (.cells #[.int .i64 0, .int .i64 0, .int .i64 0] 33)) (.cells #[.int .i64 0, .int .i64 0, .int .i64 0] 33)
  have hs3 : (((w.alloc (.cells #[.int .i64 pk, .int .i64 pi, .int .i64 pj] 31)).alloc (.cells #[.int .i64 0, .int .i64 0, .int .i64 0] 33)).alloc (.cells #[.int .i64 0, .int .i64 0, .int .i64 0] 33)).heap.size = w.heap.size + 3 := by simp
  have G0 := Lib.hid g0
  have G1 := Lib.hid g1
  have G2 := Lib.hid g2
  have S3 := Lib.hid hs3
  clear g0 g1 g2 hs3
  go_enter Try.func13, Try.ntmps13
  go_wp2_with fail
  refine (all_some b c cap xs _ hp hc hm).mono ?_
  rintro e w4 ⟨v, rfl, hs, hp4, hk4⟩
  have hsz4 := hk4.size
  rw [S3.out] at hsz4
  have q0 := (hk4.block w.heap.size (by rw [S3.out]; omega) (by simp [Only]; omega)).trans G0.out
  have q1 := (hk4.block (w.heap.size + 1) (by rw [S3.out]; omega) (by simp [Only]; omega)).trans G1.out
  have q2 := (hk4.block (w.heap.size + 2) (by rw [S3.out]; omega) (by simp [Only]; omega)).trans G2.out
  have hK4 : Kept (Only c) w w4 := (hA.mono (fun _ _ f => f.elim)).trans hk4 (fun _ _ h => h)
  have hvb := hs.lt
  rw [S3.out] at hvb
  have hrd := hs.rd
  obtain ⟨_, ao, ca, rfl, hca, hma, _, hR⟩ := hrd
  unfold maxLen at hma
  have Q0 := Lib.hid q0
  have Q1 := Lib.hid q1
  have Q2 := Lib.hid q2
  clear hs hk4 hA hp h G0 G1 G2 q0 q1 q2
  generalize w.heap.size = B at *
  go_wp2_with fail
  go_loopw [15, 9] (fun i ok wr => ∃ k : Nat, k ≤ xs.length ∧ i = .int .i64 k ∧ ok = .bool (lastOf (xs.take k) pk pi pj gen).isSome ∧ wr.heap[B + 2]? = some (.cells (wv (wordOf (lastOf (xs.take k) pk pi pj gen))) 33) ∧ Kept (Only (B + 2)) w4 wr) (fun i ok wr => xs.length - (intOf i).toNat)
  case atStart => exact ⟨0, by omega, rfl, rfl, Q2.out, Kept.refl _ _⟩
  case round =>
    obtain ⟨k, hk, rfl, rfl, hw2, hkr⟩ := hrel
    have hszr := hkr.size
    have q0 := (hkr.block B (by omega) (by simp [Only])).trans Q0.out
    have q1 := (hkr.block (B + 1) (by omega) (by simp [Only])).trans Q1.out
    by_cases hlt : k < xs.length
    · obtain ⟨g, o, rfl, hgl, hR1⟩ := hR (by omega)
      have hgb := hvb g rfl
      have hcs := ent_cells hR1 k hlt
      have hsn : lastOf (xs.take (k + 1)) pk pi pj gen = if hit xs[k] pk pi pj gen then some xs[k] else lastOf (xs.take k) pk pi pj gen := by
        rw [List.take_succ_eq_append_getElem hlt, lastOf_snoc]
      have HS := Lib.hid hsn
      clear hsn hR1 hR
      generalize xs[k] = x at hcs HS
      have hkc : ∀ i, wr.cell? ⟨g, i, none⟩ = w4.cell? ⟨g, i, none⟩ := fun i => hkr.cell (p := ⟨g, i, none⟩) hgl (by simp [Only]; omega)
      simp only [← hkc] at hcs
      clear hkc
      obtain ⟨xk, xi, xj, xn, xc, xg, xgen, xpc⟩ := x
      obtain ⟨a0, a1, a2, a3, a4, a5, a6, a7⟩ := hcs
      generalize hwo : wordOf (lastOf (xs.take k) pk pi pj gen) = wo at hw2
      obtain ⟨wn, wc, wg⟩ := wo
      have HW := Lib.hid hwo
      clear hwo
      simp only [wv] at hw2
      have r0 : (wr.alloc (.cells #[.int .i64 xk, .int .i64 xi, .int .i64 xj, .int .i64 xn, .int .i64 xc, .int .i64 xg, .int .i64 xgen, .int .i64 xpc] 35)).heap[B]? = some (.cells #[.int .i64 pk, .int .i64 pi, .int .i64 pj] 31) := by rw [Below.heap_alloc _ _ _ (by omega)]; exact q0
      have r2 : (wr.alloc (.cells #[.int .i64 xk, .int .i64 xi, .int .i64 xj, .int .i64 xn, .int .i64 xc, .int .i64 xg, .int .i64 xgen, .int .i64 xpc] 35)).heap[B + 2]? = some (.cells #[.int .i64 wn, .int .i64 wc, .int .i64 wg] 33) := by rw [Below.heap_alloc _ _ _ (by omega)]; exact hw2
      obtain ⟨p0, p1, p2, _⟩ := cells3 r0
      obtain ⟨s0, s1, s2, sf⟩ := cells3 r2
      have sf0 := sf 0
      have sf1 := sf 1
      have sf2 := sf 2
      have R2 := Lib.hid r2
      have HW2 := Lib.hid hw2
      have hkA := hkr.alloc (.cells #[.int .i64 xk, .int .i64 xi, .int .i64 xj, .int .i64 xn, .int .i64 xc, .int .i64 xg, .int .i64 xgen, .int .i64 xpc] 35)
      clear r0 r2 sf q0 q1 hw2
      have hq := fun w => eq_place w xk xi xj pk pi pj
      generalize hlo : (lastOf (xs.take k) pk pi pj gen).isSome = lo
      have HLO := Lib.hid hlo
      clear hlo
      by_cases hp : (xk == pk && (xi == pi && (xj == pj && true))) = true
      · rw [hp] at hq
        by_cases hg : xgen = gen
        · have hgb' : (xgen == gen) = true := beq_iff_eq.2 hg
          have hh : hit ⟨xk, xi, xj, xn, xc, xg, xgen, xpc⟩ pk pi pj gen = true := by simp only [hit, hp, hgb', Bool.and_self]
          have HH := Lib.hid hh
          clear hh hp hg
          go_wp2_with fail
          go_roundw
          case rel =>
            refine ⟨k + 1, by omega, by go_num, by rw [HS.out, HH.out]; rfl, ?_, ?_⟩
            · rw [HS.out, HH.out]
              exact heap_set3 _ _ _ _ _ _ _ _ _ _ R2.out
            · exact ((hkA.setCell (p := ⟨B + 2, 0, none⟩) (fun _ => by exact rfl) _).setCell (p := ⟨B + 2, 1, none⟩) (fun _ => by exact rfl) _).setCell (p := ⟨B + 2, 2, none⟩) (fun _ => by exact rfl) _
          case measure => simp [intOf]; omega
        · have hgb' : (xgen == gen) = false := beq_eq_false_iff_ne.2 hg
          have hh : hit ⟨xk, xi, xj, xn, xc, xg, xgen, xpc⟩ pk pi pj gen = false := by simp only [hit, hp, hgb', Bool.and_false]
          have HH := Lib.hid hh
          clear hh hp hg
          go_wp2_with fail
          go_roundw
          case rel => exact ⟨k + 1, by omega, by go_num, by rw [HS.out, HH.out, ← HLO.out]; rfl, by rw [HS.out, HH.out]; simp only [Bool.false_eq_true, if_false]; rw [HW.out]; exact R2.out, hkA⟩
          case measure => simp [intOf]; omega
      · have hp' : (xk == pk && (xi == pi && (xj == pj && true))) = false := by simpa using hp
        rw [hp'] at hq
        have hh : hit ⟨xk, xi, xj, xn, xc, xg, xgen, xpc⟩ pk pi pj gen = false := by simp only [hit, hp', Bool.false_and]
        have HH := Lib.hid hh
        clear hh hp hp'
        go_wp2_with fail
        go_roundw
        case rel => exact ⟨k + 1, by omega, by go_num, by rw [HS.out, HH.out, ← HLO.out]; rfl, by rw [HS.out, HH.out]; simp only [Bool.false_eq_true, if_false]; rw [HW.out]; exact R2.out, hkA⟩
        case measure => simp [intOf]; omega
    · obtain rfl : k = xs.length := by omega
      rw [List.take_length] at hw2 ⊢
      clear hR
      generalize hwo : wordOf (lastOf xs pk pi pj gen) = wo at hw2
      obtain ⟨wn, wc, wg⟩ := wo
      have HW := Lib.hid hwo
      clear hwo
      simp only [wv] at hw2
      obtain ⟨s0, s1, s2, _⟩ := cells3 hw2
      obtain ⟨t0, t1, t2, tf⟩ := cells3 q1
      have tf0 := tf 0
      have tf1 := tf 1
      have tf2 := tf 2
      have HQ1 := Lib.hid q1
      generalize hlo : (lastOf xs pk pi pj gen).isSome = lo
      have HLO := Lib.hid hlo
      clear hlo tf q0 q1 hw2
      go_wp2_with fail
      have hB : w.heap.size = B := by have := S3.out; simp at this; exact this
      refine bodyPost_ret (v := .tuple #[.agg #[.int .i64 wn, .int .i64 wc, .int .i64 wg], .bool lo]) (by simp [results, Try.results13, go_sem, t0, t1, t2]) rfl ⟨by rw [HW.out, HLO.out]; rfl, ?_, ?_⟩
      · refine (hp4.kept hkr (by simp [Only]; omega) (by simp [Only]; omega)).kept (S := Only (B + 1)) ?_ (by simp [Only]; omega) (by simp [Only]; omega)
        iterate 3 (refine Kept.setCell (S := Only (B + 1)) ?_ (fun _ => by exact rfl) _)
        exact Kept.refl _ _
      · have hk2 : Kept (Only c) w wr := hK4.trans hkr (fun k hk h => by simp only [Only] at h; omega)
        iterate 3 (refine Kept.setCell ?_ (fun (hh : B + 1 < w.heap.size) => absurd hh (by omega)) _)
        exact hk2
end Go.Proofs.Ytgjoofjkhcnekaa.Buf
