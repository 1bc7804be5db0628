/-
  A slice of texts among the arguments, opened.
-/
import Derived.Test.YtclemefgljlmfaaDoorOpen
import Derived.SliceStrings
set_option linter.unusedVariables false
namespace Go.Proofs.YtclemefgljlmfaaDoor.Open
open Go.RowKit Go.ChangeShapes Go.WideShapes Go.Deep Go.Proofs.YtclemefgljlmfaaDoor.Own
section
variable {H : Type} {enc : TypeId × Value → H} {P : Program} {w w' : World} {base : Nat} {spare : Nat → Bool} {held : Bool}
theorem open_texts {r : Reach} {b0 : Nat} {t e : TypeId} {v : Value} {d : DataW H} {p : List MemPlace} (ht : P.underlying t = some (.slice e)) (he : P.underlying e = some .string) (hc : P.cellsOf e = 1)
    (hv : Value.okWide P w r b0 t v) (h : DataW.Trod enc P w base spare held t v d p) :
    ∃ (len : Nat) (xs : List (List UInt8)), Rd w 1 v len (xs.map fun l => .string ⟨l.toArray⟩) ∧ (∀ x ∈ xs, x.length ≤ maxLen) := by
  obtain ⟨ao, len, cap, rfl⟩ := okWide_slice ht hv
  obtain ⟨fuel, hf⟩ := h
  rcases open_strings ht he hc (by simpa [Value.cells] using hf) with ⟨h1, _⟩ | ⟨a, len', cap', ss, h1, hb, hle, hmax, hz, _, hx, hsz⟩
  · simp only [List.cons.injEq, Value.slice.injEq, and_true] at h1
    obtain ⟨rfl, rfl, rfl⟩ := h1
    exact ⟨0, [], Rd.nil w 1, by simp⟩
  · simp only [List.cons.injEq, Value.slice.injEq, and_true] at h1
    obtain ⟨rfl, rfl, rfl⟩ := h1
    have hlm : len ≤ ss.length := by rw [hz]; split <;> omega
    have hlist : (((ss.take len).map (fun s => s.data.toList)).map fun l => Value.string ⟨l.toArray⟩) = (ss.take len).map Value.string := by
      rw [List.map_map]; rfl
    refine ⟨len, (ss.take len).map (fun s => s.data.toList), ?_, ?_⟩
    · rw [hlist]
      refine ⟨by rw [List.length_map, List.length_take]; omega, some a, cap, rfl, hle, hmax, (fun hh => by cases hh), fun hl => ?_⟩
      have hz0 := hx 0 (by omega)
      obtain ⟨b, off, spot⟩ := a
      have hspot : spot = none := by simpa [Addr.add] using World.cell?_spot hz0
      subst hspot
      refine ⟨b, off, rfl, ?_, fun j u hu => ?_⟩
      · rcases Nat.lt_or_ge b w.heap.size with hlt | hge
        · exact hlt
        · simp [World.cell?, Addr.add, Array.getElem?_eq_none hge] at hz0
      · rw [List.getElem?_map, List.getElem?_take] at hu
        split at hu
        · rename_i hj
          have h1 := hx j (by omega)
          rw [Go.WideShapes.add_plain] at h1
          rw [h1]
          rw [List.getElem?_eq_getElem (by omega)] at hu
          simp only [Option.map_some, Option.some.injEq] at hu
          rw [← hu, List.getD_eq_getElem?_getD, List.getElem?_eq_getElem (by omega)]
          rfl
        · cases hu
    · intro x hxm
      obtain ⟨s, hs, rfl⟩ := List.mem_map.1 hxm
      have := hsz s (List.mem_of_mem_take hs)
      simpa using this
end
end Go.Proofs.YtclemefgljlmfaaDoor.Open
