/-
  A whole row of a block stored: what lay before it lies as it lay.
-/
import Derived.Test.YtaffaliplmfagaaGreatDoorOwn
import Derived.Great.BuildSlice
import Derived.Laws.Tables
namespace Go.Proofs.YtaffaliplmfagaaGreatDoor.Own
open Go
theorem row_kept {S : Nat → Prop} {w w1 : World} (h : Kept S w w1) {g : Nat} (hg : w.heap.size ≤ g) (cs : Array Value) : Kept S w (w1.setRow g cs) :=
  ⟨h.os, h.tape, h.output, by rw [setRow_size]; exact h.size, fun k h1 h2 => (setRow_other w1 g k cs (by omega)).trans (h.block k h1 h2)⟩
theorem Box.row {w : World} {g : Nat} {old cs : Array Value} {t : TypeId} (h : Box w g old t) : Box (w.setRow g cs) g cs t := setRow_heap w g old cs t (0, 0) h
theorem Box.row_other {w : World} {g k : Nat} {old cs : Array Value} {t : TypeId} (h : Box w k old t) (hk : k ≠ g) : Box (w.setRow g cs) k old t := (setRow_other w g k cs hk).trans h
end Go.Proofs.YtaffaliplmfagaaGreatDoor.Own
