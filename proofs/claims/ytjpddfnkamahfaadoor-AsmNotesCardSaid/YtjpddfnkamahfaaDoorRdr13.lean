/-
  The reader's memory, and what a line more does to it.
-/
import Derived.Test.YtjpddfnkamahfaaDoorHead13
import Derived.Test.YtjpddfnkamahfaaDoorSplit13
set_option linter.unusedVariables false
set_option linter.unusedSimpArgs false
namespace Go.Proofs.YtjpddfnkamahfaaDoor.Line
open Go.RowKit Go.Sort Go.Proofs.YtjpddfnkamahfaaDoor.Own Go.Proofs.YtjpddfnkamahfaaDoor.Conv Go.Proofs.YtjpddfnkamahfaaDoor.Calm

/-- What was read so far: three numbers, whether the first line was, the threads' numbers (five an instruction). -/
structure PS where
  r : Int
  c : Int
  s : Int
  bg : Bool
  rows : List (List Int)
def putLast : List (List Int) → List Int → List (List Int)
  | [], _ => []
  | [x], y => [x ++ y]
  | x :: x2 :: xs, y => x :: putLast (x2 :: xs) y
def lastL (rows : List (List Int)) : List Int := rows.getLastD []
/-- A line more; 0, or what is wrong with it. -/
def lineS (st : PS) (l : List UInt8) : PS × Int :=
  let ws := wordsL l
  if ws = [] ∨ (ws.getD 0 []).head? = some 35 then (st, 0)
  else if st.bg = false then (if headOk ws = true then (⟨hdV ws 0, hdV ws 1, hdV ws 2, true, st.rows⟩, 0) else (st, 1))
  else if ws = [threadW] then (if 4 ≤ st.rows.length then (st, 4) else (⟨st.r, st.c, st.s, st.bg, st.rows ++ [[]]⟩, 0))
  else if st.rows = [] then (st, 5)
  else if (instrL l).e ≠ 0 then (st, (instrL l).e)
  else if 80 ≤ (lastL st.rows).length then (st, 4)
  else (⟨st.r, st.c, st.s, st.bg, putLast st.rows [(instrL l).z, (instrL l).a, (instrL l).b, (instrL l).c, (instrL l).n]⟩, 0)

/-- The reader as it lies from block B on: its box, the code's slice, the threads' slices, all apart. -/
structure RdrMem (w : World) (B b : Nat) (st : PS) (v : Value) (hds : List Value) : Prop where
  base : B ≤ b
  box : Box w b #[.int .i64 st.r, .int .i64 st.c, .int .i64 st.s, v, .bool st.bg] 58
  code : Seg w B 52 1 v hds.length hds
  len : hds.length = st.rows.length
  row : ∀ (i : Nat) (hd : Value) (xs : List Int), hds[i]? = some hd → st.rows[i]? = some xs → ∃ n, Seg w B 25 5 hd n (vals xs)
  vb : v.ownBlock ≠ some b
  hb : ∀ hd ∈ hds, hd.ownBlock ≠ some b ∧ ∀ g, hd.ownBlock = some g → v.ownBlock ≠ some g
  apart : ∀ (i j : Nat) (hi hj : Value), i ≠ j → hds[i]? = some hi → hds[j]? = some hj → ∀ g, hi.ownBlock = some g → hj.ownBlock ≠ some g
theorem RdrMem.kept {w w' : World} {B b : Nat} {st : PS} {v : Value} {hds : List Value} (h : RdrMem w B b st v hds) (hk : Kept No w w') : RdrMem w' B b st v hds :=
  ⟨h.base, h.box.kept hk id, h.code.kept hk (fun _ _ => id), h.len, fun i hd xs h1 h2 => (h.row i hd xs h1 h2).imp fun n hs => hs.kept hk (fun _ _ => id), h.vb, h.hb, h.apart⟩
def RdrAt (w : World) (B b : Nat) (st : PS) : Prop := ∃ v hds, RdrMem w B b st v hds
theorem RdrAt.kept {w w' : World} {B b : Nat} {st : PS} (h : RdrAt w B b st) (hk : Kept No w w') : RdrAt w' B b st := by
  obtain ⟨v, hds, h⟩ := h
  exact ⟨v, hds, h.kept hk⟩
/-- A fresh reader. -/
theorem rdr_new (w : World) : RdrAt (w.alloc (.cells #[.int .i64 0, .int .i64 0, .int .i64 0, .slice none 0 0, .bool false] 58)) w.heap.size w.heap.size ⟨0, 0, 0, false, []⟩ :=
  ⟨.slice none 0 0, [], Nat.le_refl _, Box.new w _ _, Seg.nil _ _ _ _, rfl, (by simp), (by simp [Value.ownBlock]), (by simp), (by simp)⟩
/-- The box with another first line. -/
theorem RdrMem.head {w w' : World} {B b : Nat} {st : PS} {v : Value} {hds : List Value} (h : RdrMem w B b st v hds) (hk : Kept (Only b) w w') {x y z : Int}
    (hb : Box w' b #[.int .i64 x, .int .i64 y, .int .i64 z, v, .bool true] 58) : RdrMem w' B b ⟨x, y, z, true, st.rows⟩ v hds :=
  ⟨h.base, hb, h.code.kept hk (fun g hg e => h.vb (by rw [hg]; exact congrArg some e)), h.len,
   fun i hd xs h1 h2 => (h.row i hd xs h1 h2).imp fun n hs => hs.kept hk (fun g hg e => (h.hb hd (List.mem_of_getElem? h1)).1 (by rw [hg]; exact congrArg some e)), h.vb, h.hb, h.apart⟩
theorem words_ne {l p : List UInt8} (h : p ∈ wordsL l) : p ≠ [] := by
  have := (List.mem_filter.1 h).2
  intro e
  rw [e] at this
  simp at this
end Go.Proofs.YtjpddfnkamahfaaDoor.Line
