/-
  Package set: the iterator that keeps what is left in its own captured variable.
-/
import Derived.Test.YtpggdafhpdipjaaDoorSet
import Derived.RangeFuncNested
import Derived.RangeFuncBound
import Derived.RangeFuncCalls
import Derived.RangeFuncLeaves
import Derived.Shelf.Abstract
import Derived.Shelf.RegionOpen
import Derived.WalkKit
import Derived.OwnWalkIn
import Derived.TacticsInMore
import Derived.LoopNIn
import Derived.LoopIn
import Derived.Shelf.SlIter.Collect
set_option linter.unusedVariables false
namespace Go.Proofs.YtpggdafhpdipjaaDoor.Sets
open Go.RowKit Go.Shelf Go.Proofs.YtpggdafhpdipjaaDoor.Own
attribute [local go_sem] Oper.semAt_some

/-- The numbers of a set, rising. -/
def memN (r : Nat) : List Nat := (List.range 64).filter fun i => r.testBit i
def mem (r : Nat) : List Int := (memN r).map fun (i : Nat) => (i : Int)

theorem filter_first {p q : Nat → Bool} {k : Nat} (hp : p k = true) (hl : ∀ i, i < k → p i = false) (hq : ∀ i, q i = (p i && i != k)) : ∀ n, k < n → (List.range n).filter p = k :: (List.range n).filter q := by
  intro n
  induction n with
  | zero => intro h; omega
  | succ n ih =>
    intro h
    rw [List.range_succ, List.filter_append, List.filter_append]
    by_cases hk : k = n
    · subst hk
      have h1 : (List.range k).filter p = [] := by
        rw [List.filter_eq_nil_iff]; intro i hi; simp [hl i (List.mem_range.1 hi)]
      have h2 : (List.range k).filter q = [] := by
        rw [List.filter_eq_nil_iff]; intro i hi; simp [hq, hl i (List.mem_range.1 hi)]
      rw [h1, h2]
      simp [hp, hq]
    · rw [ih (by omega)]
      have h3 : q n = p n := by rw [hq]; simp; intro _; omega
      simp [List.filter_cons, h3]

theorem memN_zero : memN 0 = [] := by
  unfold memN; rw [List.filter_eq_nil_iff]; intro i _; simp

theorem memN_step (r : Nat) (h0 : r ≠ 0) (h : r < 18446744073709551616) : memN r = Lib.ctz 64 r :: memN (r &&& (r - 1)) ∧ (r &&& (r - 1)) < r ∧ Lib.ctz 64 r < 64 := by
  obtain ⟨m, hm, hk⟩ := Lib.ctzFrom_spec 64 r (by omega) h
  have hc : Lib.ctz 64 r = Lib.ctzFrom 64 r := by unfold Lib.ctz; rw [if_neg h0]
  rw [hc]
  generalize Lib.ctzFrom 64 r = k at *
  have hpos : 0 < 2 ^ k := Nat.two_pow_pos k
  have e1 : r = 2 ^ k * (2 * m + 1) + 0 := by omega
  have e2 : r - 1 = 2 ^ k * (2 * m) + (2 ^ k - 1) := by rw [hm, Nat.mul_add, Nat.mul_one]; omega
  have b1 : ∀ i, r.testBit i = if i < k then false else (2 * m + 1).testBit (i - k) := fun i => by
    rw [e1, Nat.testBit_two_pow_mul_add _ hpos]; simp
  have b2 : ∀ i, k ≤ i → (r - 1).testBit i = (2 * m).testBit (i - k) := fun i hi => by
    rw [e2, Nat.testBit_two_pow_mul_add _ (by omega)]; simp [show ¬ i < k by omega]
  refine ⟨?_, ?_, hk⟩
  · unfold memN
    refine filter_first (by rw [b1]; simp) (fun i hi => by rw [b1]; simp [hi]) (fun i => ?_) 64 hk
    rw [Nat.testBit_and]
    by_cases hi : i < k
    · rw [b1 i]; simp [hi]
    · by_cases hik : i = k
      · subst hik; rw [b2 i (by omega)]; simp
      · rw [b1 i, b2 i (by omega), if_neg hi]
        obtain ⟨d, hd⟩ : ∃ d, i - k = d + 1 := ⟨i - k - 1, by omega⟩
        rw [hd, Nat.testBit_succ, Nat.testBit_succ, show (2 * m + 1) / 2 = m by omega, show 2 * m / 2 = m by omega]
        simp [hik]
  · have : (r &&& (r - 1)) ≤ r - 1 := Nat.and_le_right
    omega

theorem mem_zero : mem 0 = [] := by simp [mem, memN_zero]
theorem mem_step (r : Nat) (h0 : r ≠ 0) (h : r < 18446744073709551616) : mem r = (Lib.ctz 64 r : Int) :: mem (r &&& (r - 1)) := by
  simp [mem, (memN_step r h0 h).1]
theorem mem_len (r : Nat) : (mem r).length = cnt 64 r := by
  simp [mem, memN, cnt, List.countP_eq_length_filter]

def left (Bx : Nat) (W : World) : Nat := match W.cell? ⟨Bx, 0, none⟩ with
  | some (.int _ z) => z.toNat
  | _ => 0

/-- What the iterator wants kept by the rounds. -/
def Kp (Bx : Nat) (W W' : World) : Prop := W'.heap[Bx]? = W.heap[Bx]? ∧ ∀ i, W'.cell? ⟨0, i, none⟩ = W.cell? ⟨0, i, none⟩

set_option maxRecDepth 100000 in
set_option maxHeartbeats 2000000 in
theorem each1 (n l Bx : Nat) (hn : 1 ≤ n) (hBx : Bx ≠ 0) (s : Nat) (hs : s < 18446744073709551616) (J Jx : List Int → World → Prop) (hJ : ∀ t A v, J t A → J t (A.setCell ⟨Bx, 0, none⟩ v))
    (hY : ∀ pre x W, J pre W → (pre ++ [x]) <+: mem s → YieldAt Fence.wide (n - 1) Tryd.prog l #[.int .i64 x] W fun e W' =>
      (e = .returned (.bool true) ∧ J (pre ++ [x]) W' ∧ Kp Bx W W') ∨ (e = .returned (.bool false) ∧ Jx (pre ++ [x]) W'))
    (W : World) (hB : Box W Bx #[.int .u64 s] 24) (hT : Door.Tabs W) (h0 : J [] W) :
    CallsIn Fence.wide n Tryd.prog 21 #[.func (.yield l) #[] #[], .pointer (some ⟨Bx, 0, none⟩)] W fun e W' => (∃ v, e = .returned v) ∧ (J (mem s) W' ∨ ∃ pre, pre <+: mem s ∧ Jx pre W') := by
  refine callsIn_of_wp Tryd.func21 rfl trivial ?_ rfl
  simp only [Tryd.ntmps21, List.size_toArray, List.length_cons, List.length_nil, Nat.reduceAdd, Nat.reduceSub, Array.replicate_succ, Array.replicate_zero, List.push_toArray, List.append_toArray, List.nil_append, List.cons_append]
  gi_wp2
  gi_loopw [13] (fun _ wr => ∃ (pre : List Int) (r : Nat), r < 18446744073709551616 ∧ mem s = pre ++ mem r ∧ Box wr Bx #[.int .u64 r] 24 ∧ Door.Tabs wr ∧ J pre wr) (fun _ wr => left Bx wr)
  case atStart => exact ⟨[], s, hs, rfl, hB, hT, h0⟩
  case round =>
    obtain ⟨pre, r, hr, hm, hb, ht, hj⟩ := hrel
    have c0 := hb.cell 0
    have f0 := hb.frozen 0
    simp only [List.getElem?_toArray, List.getElem?_cons_zero] at c0
    by_cases hr0 : r = 0
    · subst hr0
      gi_wp2
      go_end0
      rw [mem_zero, List.append_nil] at hm
      rw [hm]
      exact ⟨⟨_, rfl⟩, .inl hj⟩
    · have hne : ((r : Int) != 0) = true := by rw [bne_iff_ne]; omega
      have hst := mem_step r hr0 hr
      obtain ⟨_, hlt, _⟩ := memN_step r hr0 hr
      have ew : IntKind.u64.wrap ((r : Int) - 1) = ((r - 1 : Nat) : Int) := by rw [IntKind.wrap_u64]; omega
      have ea : bits .and .u64 (r : Int) (((r - 1 : Nat)) : Int) = ((r &&& (r - 1) : Nat) : Int) := bits_and_u64_nat r (r - 1) hr (by omega)
      obtain ⟨fn, tmps, assign, body, hy, hR⟩ := hY pre (Lib.ctz 64 r) wr hj (by rw [hm, hst]; exact ⟨mem (r &&& (r - 1)), by simp⟩)
      rw [hst] at hm
      gi_wp2_with (first | (refine ⟨trivial, ?_⟩; gi_at_call 22; refine (callsIn_wide.2 (tz_is r hr hr0 _ ht)).mono ?_; rintro e w' ⟨rfl, rfl⟩))
      refine hR.mono ?_
      rintro e W3 (⟨rfl, hJ3, hk1, hk2⟩ | ⟨rfl, hJx3⟩)
      · have hb3 : Box W3 Bx #[.int .u64 r] 24 := hk1.trans hb
        have ht3 : Door.Tabs W3 := fun i hi => (hk2 i).trans (ht i hi)
        have c3 := hb3.cell 0
        have f3 := hb3.frozen 0
        simp only [List.getElem?_toArray, List.getElem?_cons_zero] at c3
        gi_wp2
        have hb4 : Box (W3.setCell ⟨Bx, 0, none⟩ (.int .u64 (r &&& (r - 1) : Nat))) Bx #[.int .u64 (r &&& (r - 1) : Nat)] 24 := heap_setCell_box_a _ hb3
        go_roundw
        case rel => exact ⟨pre ++ [_], r &&& (r - 1), by omega, by simp [hm], hb4, ht3.kept (S := Only Bx) ((Kept.refl _ W3).setCell (fun _ => by exact rfl) _) (fun e => hBx e.symm), hJ _ _ _ hJ3⟩
        case measure =>
          have c4 := hb4.cell 0
          simp only [List.getElem?_toArray, List.getElem?_cons_zero] at c4
          simp only [left, c4, c0]
          omega
      · gi_wp2
        refine bodyPost_ret (results_none rfl _ _ _) rfl ?_
        exact ⟨⟨_, rfl⟩, .inr ⟨pre ++ [_], ⟨mem (r &&& (r - 1)), by simp [hm]⟩, hJx3⟩⟩

/-- What an invariant of the loop must stand: a turn of a block of the loop's book-keeping; a store into the iterator's own box. -/
structure Stays {α : Type} (B Bx : Nat) (I : List α → World → Prop) : Prop where
  own : OwnFrom B I
  box : ∀ {s : List α} {W : World} (v : Value), I s W → I s (W.setCell ⟨Bx, 0, none⟩ v)

set_option maxRecDepth 100000 in
set_option maxHeartbeats 2000000 in
/-- The loop over a set's numbers. -/
theorem range_each (n : Nat) (hn : 2 ≤ n) {g : Operand} {ps : Array Tmp} {assign body : Code} {Q : Exit → Act → World → Prop} {a : Act} {w : World} (Bx : Nat) (hg : a.eval g = .func (.func 21) #[] #[.pointer (some ⟨Bx, 0, none⟩)])
    (hps : ps.size = 1) (s : Nat) (hs : s < 18446744073709551616) (hBx : Bx ≠ 0) (hBw : Bx < w.heap.size) (hB : Box w Bx #[.int .u64 s] 24) (hT : Door.Tabs w) (h0w : 0 < w.heap.size)
    (I : List Int → World → Prop) (Ix : Code → List Int → World → Prop) (hI : Stays w.heap.size Bx I) (hIx : ∀ c, OwnFrom w.heap.size (Ix c)) (h0 : I [] w) (a₁ : Int → Act)
    (hassign : ∀ (l : Nat) (x : Int) (W : World) (K : Act → World → Prop), K (a₁ x) W →
      assign.wpIn (Fence.wide.inRound l) (n - 1 - 1) Tryd.prog (Exit.then K (fun _ _ _ => False)) { tmps := (ps.zip #[Value.int .i64 x]).foldl (fun t (p, v) => t.setIfInBounds p v) a.tmps, defers := [] } W)
    (hbody : ∀ (l : Nat) (pre : List Int) (x : Int) (W : World), I pre W → (pre ++ [x]) <+: mem s → body.wpIn (Fence.wide.inRound l) (n - 1 - 1) Tryd.prog (ownPostG w.heap.size (Kp Bx) I Ix (pre ++ [x]) W) (a₁ x) W)
    (hdone : ∀ (D : Nat) (W : World), w.heap.size ≤ D → I (mem s) W → W.heap[D]? = some (.deferred (some [])) → Q .normal { a with defers := { target := .collected D, args := #[] } :: a.defers } W)
    (hstop : ∀ (D : Nat) (c : Code) (pre : List Int) (W : World), w.heap.size ≤ D → pre <+: mem s → Ix c pre W → W.heap[D]? = some (.deferred (some [])) → c.wpIn Fence.wide n Tryd.prog Q { a with defers := { target := .collected D, args := #[] } :: a.defers } W) :
    (Code.rangeFunc g ps assign body).wpIn Fence.wide n Tryd.prog Q a w := by
  refine wpIn_rangeFunc ?_
  intro fn hfn
  have eg : ∀ args w, (callFunc 21 args).run Tryd.prog w = .ok (.enter 21 args) w := enters_of Tryd.func21 (by kernel_rfl) rfl
  obtain ⟨rec, hrec⟩ : ∃ rec : LoopState → Option Code → Loop, rec = fun st pe => { state := st, pending := pe, fn, tmps := a.tmps, params := ps, assign, body, defers := w.heap.size } := ⟨_, rfl⟩
  obtain ⟨W1, hW1⟩ : ∃ W1, (w.alloc (.deferred (some []))).alloc (.loop (rec .ready none)) = W1 := ⟨_, rfl⟩
  have hL1 : W1.heap[w.heap.size + 1]? = some (.loop (rec .ready none)) := by
    rw [← hW1]; have := World.alloc_heap_new (w.alloc (.deferred (some []))) (.loop (rec .ready none)); rwa [World.size_alloc] at this
  have hK1 : W1.heap[w.heap.size]? = some (.deferred (some [])) := by
    rw [← hW1]; exact (Below.heap_alloc _ _ _ (by simp)).trans (World.alloc_heap_new w _)
  have hI1 : I [] W1 := by rw [← hW1]; exact hI.own.alloc _ (hI.own.alloc _ h0)
  have hk1 : Kept No w W1 := by rw [← hW1]; exact ((Kept.refl No w).alloc _).alloc _
  have hB1 : Box W1 Bx #[.int .u64 s] 24 := (hk1.block Bx hBw id).trans hB
  have hT1 : Door.Tabs W1 := hT.kept hk1 id
  refine ⟨w.heap.size + 1, [{ target := .collected w.heap.size, args := #[] }], W1, { target := .fn (.func 21) #[.pointer (some ⟨Bx, 0, none⟩)], args := #[.func (.yield (w.heap.size + 1)) #[] #[]] }, W1, 21,
    #[.func (.yield (w.heap.size + 1)) #[] #[]] ++ #[.pointer (some ⟨Bx, 0, none⟩)], W1, ?_, ?_, ?_, ?_, fun _ => by omega, ?_⟩
  · rw [← hW1, hrec]; exact run_enterLoop_outer _ _ _ _ _
  · simp only [resolve, hg]
    simp [go_sem]
  · intro f' hf'; trivial
  · simp [invoke, go_sem, eg]
  · have kpPut : ∀ (W : World) (o : Obj), Kp Bx W (W.putObj (w.heap.size + 1) o) := fun W o =>
      ⟨World.putObj_heap_other (by omega), fun i => World.cell?_of_block (World.putObj_heap_other (by simp only []; omega))⟩
    refine (each1 (n - 1) (w.heap.size + 1) Bx (by omega) hBx s hs
      (fun pre W => I pre W ∧ W.heap[w.heap.size + 1]? = some (.loop (rec .ready none)) ∧ W.heap[w.heap.size]? = some (.deferred (some [])))
      (fun pre W => ∃ c, Ix c pre W ∧ W.heap[w.heap.size + 1]? = some (.loop (rec .done (some c))) ∧ W.heap[w.heap.size]? = some (.deferred (some [])))
      (fun t A v hs => ⟨hI.box v hs.1, (Below.heap_setCell _ _ _ _ (by simp only [ne_eq]; omega)).trans hs.2.1, (Below.heap_setCell _ _ _ _ (by simp only [ne_eq]; omega)).trans hs.2.2⟩)
      ?_ W1 hB1 hT1 ⟨hI1, hL1, hK1⟩).mono ?_
    · rintro pre x W ⟨hi, hl, hk⟩ hlen
      have hlt : w.heap.size + 1 < W.heap.size := (Array.getElem?_eq_some_iff.1 hl).1
      have hy := run_yield (P := Tryd.prog) (args := #[Value.int .i64 x]) hl (by rw [hrec]; exact hps.symm)
      rw [hrec] at hy
      refine ⟨fn, _, assign, body, hy, roundIn_of_wpIn hfn (hassign _ x W _ ⟨_, run_beginRound hl (by rw [hrec]), ?_⟩)⟩
      have hl2 : (W.putObj (w.heap.size + 1) (.loop { rec .ready none with state := .busy })).heap[w.heap.size + 1]? = some (.loop { rec .ready none with state := .busy }) := World.putObj_heap_same hlt
      have hk2 : (W.putObj (w.heap.size + 1) (.loop { rec .ready none with state := .busy })).heap[w.heap.size]? = some (.deferred (some [])) := (World.putObj_heap_other (by omega)).trans hk
      refine wpIn_mono (hbody _ pre x _ (hI.own.putObj _ hi (by omega) hl rfl) hlen) ?_
      have fin : ∀ (jump : Option Code) (W3 : World), KeepsFrom w.heap.size (W.putObj (w.heap.size + 1) (.loop { rec .ready none with state := .busy })) W3 →
          (Instr.endRound (w.heap.size + 1) jump).run Tryd.prog W3 = .ok (.bool jump.isNone) (W3.putObj (w.heap.size + 1) (.loop (rec (if jump.isNone then .ready else .done) jump))) ∧
          W3.heap[w.heap.size + 1]? = some (.loop { rec .ready none with state := .busy }) ∧
          (W3.putObj (w.heap.size + 1) (.loop (rec (if jump.isNone then .ready else .done) jump))).heap[w.heap.size + 1]? = some (.loop (rec (if jump.isNone then .ready else .done) jump)) ∧
          (W3.putObj (w.heap.size + 1) (.loop (rec (if jump.isNone then .ready else .done) jump))).heap[w.heap.size]? = some (.deferred (some [])) := fun jump W3 hk3 => by
        have hl3 := hk3.same _ _ (by omega) hl2 rfl
        have := run_endRound (P := Tryd.prog) jump hl3
        rw [hrec] at this ⊢
        exact ⟨this, by rw [hrec] at hl3; exact hl3, World.putObj_heap_same (Array.getElem?_eq_some_iff.1 hl3).1, (World.putObj_heap_other (by omega)).trans (hk3.same _ _ (Nat.le_refl _) hk2 rfl)⟩
      rintro e a3 W3 hp
      cases e with
      | normal =>
        obtain ⟨hk3, hkp3, hi3⟩ := hp
        obtain ⟨hr, hl3, hl4, hk4⟩ := fin none W3 hk3
        have k1 := kpPut W (.loop { rec .ready none with state := .busy })
        have k2 := kpPut W3 (.loop (rec .ready none))
        exact ⟨_, _, hr, .inl ⟨rfl, ⟨hI.own.putObj _ hi3 (by omega) hl3 rfl, hl4, hk4⟩, (k2.1.trans hkp3.1).trans k1.1, fun i => ((k2.2 i).trans (hkp3.2 i)).trans (k1.2 i)⟩⟩
      | ret =>
        obtain ⟨hk3, hi3⟩ := hp
        obtain ⟨hr, hl3, hl4, hk4⟩ := fin (some .ret) W3 hk3
        exact ⟨_, _, hr, .inr ⟨rfl, .ret, (hIx _).putObj _ hi3 (by omega) hl3 rfl, hl4, hk4⟩⟩
      | exit id =>
        obtain ⟨hk3, hi3⟩ := hp
        obtain ⟨hr, hl3, hl4, hk4⟩ := fin (some (.exit id)) W3 hk3
        exact ⟨_, _, hr, .inr ⟨rfl, .exit id, (hIx _).putObj _ hi3 (by omega) hl3 rfl, hl4, hk4⟩⟩
      | goto t =>
        obtain ⟨hk3, hi3⟩ := hp
        obtain ⟨hr, hl3, hl4, hk4⟩ := fin (some (.goto t)) W3 hk3
        exact ⟨_, _, hr, .inr ⟨rfl, .goto t, (hIx _).putObj _ hi3 (by omega) hl3 rfl, hl4, hk4⟩⟩
      | panic ch => exact hp.elim
      | outgrown => exact hp.elim
    · rintro e W2 ⟨⟨v, rfl⟩, (⟨hi, hl, hk⟩ | ⟨pre, hSp, c, hi, hl, hk⟩)⟩
      · exact ⟨none, _, by have := run_endLoop (P := Tryd.prog) hl (by rw [hrec]; simp); rw [hrec] at this; exact this, hdone _ _ (Nat.le_refl _) (hI.own.putObj _ hi (by omega) hl rfl) ((World.putObj_heap_other (by omega)).trans hk)⟩
      · exact ⟨some c, _, by have := run_endLoop (P := Tryd.prog) hl (by rw [hrec]; simp); rw [hrec] at this; exact this, hstop _ c pre _ (Nat.le_refl _) hSp ((hIx c).putObj _ hi (by omega) hl rfl) ((World.putObj_heap_other (by omega)).trans hk)⟩
end Go.Proofs.YtpggdafhpdipjaaDoor.Sets
