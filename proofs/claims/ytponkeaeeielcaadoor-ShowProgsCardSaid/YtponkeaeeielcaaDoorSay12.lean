/-
  show.Prog's say: words, joined, and a line feed, into the builder.
-/
import Derived.Test.YtponkeaeeielcaaDoorBuildS
import Derived.Test.YtponkeaeeielcaaDoorText12
import Derived.Test.YtponkeaeeielcaaDoorLine
set_option linter.unusedVariables false
set_option linter.unusedSimpArgs false
namespace Go.Proofs.YtponkeaeeielcaaDoor.Line
open Go.RowKit Go.Sort Go.Proofs.YtponkeaeeielcaaDoor.Own Go.Proofs.YtponkeaeeielcaaDoor.Conv Go.Proofs.YtponkeaeeielcaaDoor.Build

def IsB (B b : Nat) (l : List UInt8) (w : World) : Prop := Lib.IsBuilder 50 5 B b (Lib.byteCells l) w
theorem IsB.kept {B b : Nat} {l : List UInt8} {w w' : World} (h : IsB B b l w) (hk : Kept No w w') : IsB B b l w' := by
  rcases h with h | h
  · exact .inl (builder_kept h hk)
  · exact .inr (builder_kept h hk)
theorem isB_new (w : World) : IsB w.heap.size w.heap.size [] (w.alloc (.cells #[.pointer none, .slice none 0 0] 50)) := .inl (builder_new w)

set_option maxHeartbeats 2000000 in
theorem say_is (B b : Nat) (l : List UInt8) (w : World) (h : IsB B b l w) (hB : B ≤ w.heap.size) (v : Value) (n : Nat) (xs : List (List UInt8)) (hx : Rd w 1 v n (sv xs)) (hn : n ≤ 1000) (hl : (Lib.join xs [32]).length ≤ 1000) (hll : l.length ≤ 100000) :
    Calls Tryd.prog 24 #[v, .pointer (some ⟨b, 0, none⟩)] w fun e w' => e = .returned (.tuple #[]) ∧ IsB B b (l ++ (Lib.join xs [32] ++ [10])) w' ∧ Below B w w' := by
  obtain ⟨s0, hs0⟩ : ∃ s : ByteArray, (⟨(Lib.join xs [32]).toArray⟩ : ByteArray) = s := ⟨_, rfl⟩
  have hj := join_is w v n xs hx (by omega) (by omega)
  rw [hs0] at hj
  have hsz : s0.size ≤ 1000 := by rw [← hs0]; simpa [ByteArray.size] using hl
  have hst : Lib.strCells s0 = Lib.byteCells (Lib.join xs [32]) := by rw [← hs0, Lib.strCells_eq]
  have hcl : (Lib.byteCells l).length ≤ 100000 := by rw [byteCells_len]; exact hll
  have hcj : (Lib.byteCells (Lib.join xs [32])).length ≤ 1000 := by rw [byteCells_len]; exact hl
  have HST := Lib.hid hst
  have HJ := Lib.hid hj
  have HH := Lib.hid h
  clear hs0 hj hst h hx
  go_enter Tryd.func24, Tryd.ntmps24
  go_wp2_with fail
  refine HJ.out.mono ?_
  rintro e w1 ⟨rfl, k1⟩
  have hB1 : B ≤ w1.heap.size := Nat.le_trans hB k1.size
  have hb1 : Below B w w1 := k1.below hB (fun _ _ => id)
  have h1 : Hid (IsB B b l w1) := Lib.hid (HH.out.kept k1)
  clear k1 HJ HH
  go_wp2_with fail
  refine (wstr_is B b _ s0 w1 h1.out (by omega) hB1).mono ?_
  rintro e w2 ⟨rfl, h2, b2⟩
  have hB2 : B ≤ w2.heap.size := Nat.le_trans hB1 b2.size
  have hb2 := hb1.trans b2
  rw [HST.out] at h2
  have H2 := Lib.hid h2
  clear h2 b2 hb1 h1
  go_wp2_with fail
  refine (byte_is B b _ 10 w2 (.inr H2.out) (by rw [List.length_append]; omega) hB2).mono ?_
  rintro e w3 ⟨rfl, h3, b3⟩
  have hb3 := hb2.trans b3
  have h4 : IsB B b (l ++ (Lib.join xs [32] ++ [10])) w3 := by
    right
    rw [byteCells_app, byteCells_app, ← List.append_assoc]
    exact h3
  clear h3 b3 hb2
  have H4 := Lib.hid h4
  clear h4
  go_wp2_with fail
  go_end0
  exact ⟨rfl, H4.out, hb3⟩
end Go.Proofs.YtponkeaeeielcaaDoor.Line
