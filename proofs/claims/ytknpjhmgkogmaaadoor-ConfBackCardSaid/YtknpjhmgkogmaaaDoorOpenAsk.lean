/-
  A struct of two integers and a bool, as an argument.
-/
import Derived.Test.YtknpjhmgkogmaaaDoorOpenRows
set_option linter.unusedVariables false
namespace Go.Proofs.YtknpjhmgkogmaaaDoor.Open
open Go Go.ChangeShapes Go.WideShapes Go.ChangeAt Go.ChangeMaps Go.RowKit Go.Proofs.YtknpjhmgkogmaaaDoor.Own
variable {H : Type} {enc : TypeId × Value → H} {P : Program} {w : World} {base : Nat} {spare : Nat → Bool} {held : Bool}

theorem open_ask {r : Reach} {b0 : Nat} {t i0 i1 i2 : TypeId} {fs : Array Field} {v : Value} {d : DataW H} {p : List MemPlace} (hs : P.underlying t = some (.struct fs)) (hc : P.cellsOf t = 3)
    (l0 : leaf P 8 t 0 = some i0) (l1 : leaf P 8 t 1 = some i1) (l2 : leaf P 8 t 2 = some i2)
    (u0 : P.underlying i0 = some (.int .i64)) (u1 : P.underlying i1 = some (.int .i64)) (u2 : P.underlying i2 = some .bool)
    (hv : Value.okWide P w r b0 t v) (h : DataW.Trod enc P w base spare held t v d p) :
    ∃ (a b : Int) (c : Bool), v = .agg #[.int .i64 a, .int .i64 b, .bool c] ∧ (Lit.int .i64 a).wf = true ∧ (Lit.int .i64 b).wf = true := by
  obtain ⟨cs, rfl, hsz, hl⟩ := open_leaves hs hv h
  rw [hc] at hsz
  obtain ⟨m0, y0, v0, e0, h0'⟩ := hl 0 _ l0
  obtain ⟨m1, y1, v1, e1, h1'⟩ := hl 1 _ l1
  obtain ⟨m2, y2, v2, e2, h2'⟩ := hl 2 _ l2
  obtain ⟨a, ea, _, wa⟩ := DataW.trod_int u0 h0'
  obtain ⟨b, eb, _, wb⟩ := DataW.trod_int u1 h1'
  obtain ⟨c, ec, _⟩ := DataW.trod_bool u2 h2'
  simp only [List.cons.injEq, and_true] at ea eb ec
  subst ea; subst eb; subst ec
  refine ⟨a, b, c, ?_, wa, wb⟩
  obtain ⟨l⟩ := cs
  match l, hsz with
  | [w0, w1, w2], _ =>
    simp only [List.getElem?_toArray, List.getElem?_cons_zero, List.getElem?_cons_succ, Option.some.injEq] at e0 e1 e2
    rw [e0, e1, e2]
end Go.Proofs.YtknpjhmgkogmaaaDoor.Open
