/-
  A region whose first operation is a select of one case with a default, met in the walk of one goroutine: the walk's own rule for it, in each of the roads that one goroutine can take.
-/
import Derived.Conc.LoneSelectN
import Derived.Conc.LoneSelect
import Derived.Conc.Own
import Derived.Calls
import Derived.WalkKit
namespace Go.Proofs.Ytgjoofjkhcnekaa.Chan
open Go.Conc Go.RowKit

theorem comm_at {P : Program} {b : Frame} {a : Act} {k : List Item} {cs : List Frame} {w : World} {ops : Array Oper} {i : Nat} {rest : List Nat} {o : Oper} {cases : Array CommCase} {blocking : Bool} {shape : CommShape} {w' : World}
    (ho : ops[i]? = some o) (hw : Region.wanted o (yielded ops a.tmps) = true) (hr : (execOp a.eval o).run P w = .ok (.comm cases blocking shape) w') :
    ∃ es, stepG P true (G (b.at a (.inRegion ops (i :: rest) :: k)) cs) w = .comm (G (b.at a (.inRegion ops (i :: rest) :: k)) cs) cases blocking shape w' es := by
  rw [stepG_oper ho hw]
  simp [stepG.apply, hr, G, Frame.at, GStep.after]

/-- The rule: the select yields v and leaves the world w2 in one step; the rest of the region goes on from there. -/
theorem wp_select {P : Program} {id : Nat} {o : Oper} {l : List Oper} {Q : Exit → Act → World → Prop} {a : Act} {w w2 : World} {cases : Array CommCase} (v : Value)
    (hg : o.guard = none)
    (hr : (execOp a.eval o).run P w = .ok (.comm cases false .select) w)
    (hs : ∀ fr cs es, stepG P true (G fr cs) w = .comm (G fr cs) cases false .select w es → step P (solo (G fr cs) w) = .next (solo (G (fr.finish v) cs) w2))
    (h : wpList P (o :: l).toArray Q l (a.put o.dst v) w2) : (Code.region id (o :: l).toArray false).wp P Q a w := by
  intro b k cs
  have hl : List.range (o :: l).toArray.size = 0 :: List.range' 1 l.length := by
    simp [List.range_eq_range', List.range'_succ]
  have ho : (o :: l).toArray[0]? = some o := by simp
  have hw : Region.wanted o (yielded (o :: l).toArray a.tmps) = true := by simp [Region.wanted, hg]
  obtain ⟨es, hgo⟩ := comm_at (P := P) (b := b) (a := a) (k := k) (cs := cs) (w := w) (rest := List.range' 1 l.length) ho hw hr
  have h1 := hs _ _ _ hgo
  have hfin : (b.at a (.inRegion (o :: l).toArray (0 :: List.range' 1 l.length) :: k)).finish v = b.at (a.put o.dst v) (.inRegion (o :: l).toArray (List.range' 1 l.length) :: k) := by
    rw [Frame.finish_at, ho]; rfl
  rw [hfin] at h1
  have h' : wpOps P (o :: l).toArray Q (List.range' 1 l.length) (a.put o.dst v) w2 := by
    rw [wpOps_eq_wpList l 1 (by intro j; simp [Nat.add_comm])]
    exact h
  obtain ⟨e, a', w', q, r⟩ := wp_ops _ _ _ h' b k cs
  refine ⟨e, a', w', q, .of_steps (.head step_region ?_) r⟩
  rw [hl]
  exact .one h1

section
variable {P : Program} {id : Nat} {o : Oper} {l : List Oper} {Q : Exit → Act → World → Prop} {a : Act} {w : World} {x y : Operand} {T d c cap s r : Nat} {buf : Array Value} {z v : Value} {tm closed : Bool}

/-- A select of one send with a default: there is room. -/
theorem wp_send_room (hg : o.guard = none) (ho : o.op = .select #[{ chan := x, send := some y, elem := T }] false) (hd : o.dst = some d)
    (hx : a.eval x = .chan (some c)) (hy : a.eval y = v) (hz : (zeroValue T).run P w = .ok z w)
    (hc : w.heap[c]? = some (.chan cap buf false s r tm)) (hroom : buf.size < cap)
    (h : wpList P (o :: l).toArray Q l (a.put (some d) (.tuple #[goInt 0, .bool false])) (w.setChan c cap (buf.push v) false (s + 1) r tm)) : (Code.region id (o :: l).toArray false).wp P Q a w := by
  refine wp_select (cases := #[scase c v z]) (.tuple #[goInt 0, .bool false]) hg ?_ (fun fr cs es hh => step_lone_select_send_room hh hc hroom) (by rw [hd]; exact h)
  simp [execOp, ho, hx, hy, hz, scase]
/-- A select of one send with a default: there is no room. -/
theorem wp_send_full (hg : o.guard = none) (ho : o.op = .select #[{ chan := x, send := some y, elem := T }] false) (hd : o.dst = some d)
    (hx : a.eval x = .chan (some c)) (hy : a.eval y = v) (hz : (zeroValue T).run P w = .ok z w)
    (hc : w.heap[c]? = some (.chan cap buf false s r tm)) (hfull : cap ≤ buf.size)
    (h : wpList P (o :: l).toArray Q l (a.put (some d) (.tuple #[goInt (-1), .bool false])) w) : (Code.region id (o :: l).toArray false).wp P Q a w := by
  refine wp_select (cases := #[scase c v z]) (.tuple #[goInt (-1), .bool false]) hg ?_ (fun fr cs es hh => step_lone_select_send_full hh hc hfull) (by rw [hd]; exact h)
  simp [execOp, ho, hx, hy, hz, scase]
/-- A select of one receive with a default: something is there. -/
theorem wp_recv_some (hg : o.guard = none) (ho : o.op = .select #[{ chan := x, send := none, elem := T }] false) (hd : o.dst = some d)
    (hx : a.eval x = .chan (some c)) (hz : (zeroValue T).run P w = .ok z w)
    (hc : w.heap[c]? = some (.chan cap buf closed s r tm)) (hsome : 0 < buf.size)
    (h : wpList P (o :: l).toArray Q l (a.put (some d) (.tuple #[goInt 0, .bool true, buf.getD 0 undef])) (w.setChan c cap (buf.extract 1 buf.size) closed s (r + 1) tm)) : (Code.region id (o :: l).toArray false).wp P Q a w := by
  refine wp_select (cases := #[rcase c z]) (.tuple #[goInt 0, .bool true, buf.getD 0 undef]) hg ?_ (fun fr cs es hh => step_lone_select_recv_buf hh hc hsome) (by rw [hd]; exact h)
  simp [execOp, ho, hx, hz, rcase]
/-- A select of one receive with a default: nothing is there. -/
theorem wp_recv_none (hg : o.guard = none) (ho : o.op = .select #[{ chan := x, send := none, elem := T }] false) (hd : o.dst = some d)
    (hx : a.eval x = .chan (some c)) (hz : (zeroValue T).run P w = .ok z w)
    (hc : w.heap[c]? = some (.chan cap #[] false s r tm))
    (h : wpList P (o :: l).toArray Q l (a.put (some d) (.tuple #[goInt (-1), .bool false, z])) w) : (Code.region id (o :: l).toArray false).wp P Q a w := by
  refine wp_select (cases := #[rcase c z]) (.tuple #[goInt (-1), .bool false, z]) hg ?_ (fun fr cs es hh => step_lone_select_default hh hc) (by rw [hd]; exact h)
  simp [execOp, ho, hx, hz, rcase]
end

section
variable {P : Program}
theorem run_equalIn_chan (w : World) (n : Nat) {t e : TypeId} {d : ChanDir} (x y : Option Nat) (h : P.underlying t = some (.chan d e)) : (Op.equalIn (n + 1) t (.chan x) (.chan y)).run P w = .ok (x == y) w := by
  simp [Op.equalIn, run_underlying h]
theorem run_eql_chan_some (w : World) {t e : TypeId} {d : ChanDir} (c : Nat) (h : P.underlying t = some (.chan d e)) : (binOp .eql t (.chan (some c)) (.chan none)).run P w = .ok (.bool false) w := by
  simp only [binOp]
  simp [Op.equal, Op.maxDepth, run_equalIn_chan w 9999 (some c) none h]
theorem run_eql_chan_none (w : World) {t e : TypeId} {d : ChanDir} (h : P.underlying t = some (.chan d e)) : (binOp .eql t (.chan none) (.chan none)).run P w = .ok (.bool true) w := by
  simp only [binOp]
  simp [Op.equal, Op.maxDepth, run_equalIn_chan w 9999 none none h]
end

/-- The nearest to n from lo to hi. -/
def near (n lo hi : Int) : Int := if n < lo then lo else if hi < n then hi else n
theorem near_lo {n lo hi : Int} (h : n < lo) : near n lo hi = lo := by simp [near, h]
theorem near_hi {n lo hi : Int} (h : ¬ n < lo) (h2 : hi < n) : near n lo hi = hi := by simp [near, h, h2]
theorem near_in {n lo hi : Int} (h : ¬ n < lo) (h2 : ¬ hi < n) : near n lo hi = n := by simp [near, h, h2]
theorem near_bd (n lo hi : Int) (h : lo ≤ hi) : lo ≤ near n lo hi ∧ near n lo hi ≤ hi := by
  unfold near; split
  · omega
  · split <;> omega

theorem cell_setChan (w : World) (c cap : Nat) (buf : Array Value) (cl : Bool) (s r : Nat) (tm : Bool) (p : Addr) (h : p.block ≠ c) : (w.setChan c cap buf cl s r tm).cell? p = w.cell? p :=
  World.cell?_of_block (w := w) (by simp [World.setChan, Array.getElem?_setIfInBounds_ne (Ne.symm h)])
theorem setChan_alloc (w : World) (o : Obj) (c cap : Nat) (buf : Array Value) (cl : Bool) (s r : Nat) (tm : Bool) (h : c < w.heap.size) : (w.alloc o).setChan c cap buf cl s r tm = (w.setChan c cap buf cl s r tm).alloc o := by
  simp only [World.setChan, World.alloc]
  have e : ∀ x, (w.heap.push o).setIfInBounds c x = (w.heap.setIfInBounds c x).push o := by
    intro x
    apply Array.ext_getElem?
    intro i
    by_cases hi : i = c
    · subst hi
      rw [Array.getElem?_setIfInBounds_self_of_lt (by simp; omega), Array.getElem?_push_lt (by simpa using h)]
      simp
    · rw [Array.getElem?_setIfInBounds_ne (fun e => hi e.symm), Array.getElem?_push, Array.getElem?_push, Array.getElem?_setIfInBounds_ne (fun e => hi e.symm)]
      simp
  rw [e]
end Go.Proofs.Ytgjoofjkhcnekaa.Chan
