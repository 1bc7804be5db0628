/-
  A report as an argument.
-/
import Derived.Test.YtaffaliplmfagaaDoorOpenRows
import Derived.Test.YtaffaliplmfagaaDoorPap2
namespace Go.Proofs.YtaffaliplmfagaaDoor.Open
open Go.RowKit Go.ChangeShapes Go.WideShapes Go.Deep Go.Proofs.YtaffaliplmfagaaDoor.Own Go.Proofs.YtaffaliplmfagaaDoor.Line

section
variable {H : Type} {enc : TypeId × Value → H} {P : Program} {w w' : World} {base : Nat} {spare : Nat → Bool} {held : Bool}

theorem open_found {t e i0 i1 i2 t3 s : TypeId} {v : Value} {fuel : Nat} {x : DataW H × List MemPlace} (ht : P.underlying t = some (.slice e)) (hc : P.cellsOf e = 4)
    (l0 : leaf P 8 e 0 = some i0) (l1 : leaf P 8 e 1 = some i1) (l2 : leaf P 8 e 2 = some i2) (l3 : leaf P 8 e 3 = some t3)
    (u0 : P.underlying i0 = some (.int .i64)) (u1 : P.underlying i1 = some (.int .i64)) (u2 : P.underlying i2 = some (.int .i64)) (u3 : P.underlying t3 = some (.slice s)) (hcs : P.cellsOf s = 1) (ha : allI64 P s = true)
    (h : DataW.trod enc P w base spare held fuel t [v] = some x) :
    ∃ fs : List FoundI, Rd w 4 v fs.length (foundV fs) ∧ ∀ f ∈ fs, Rd w 1 f.v f.n (vals f.zs) := by
  obtain ⟨len, cs, hr, hl⟩ := open_cells 4 ht hc (by omega) h
  have hlen := hr.len
  have each : ∀ k, k < len → ∃ f : FoundI, (cs[k * 4]? = some (.int .i64 f.k) ∧ cs[k * 4 + 1]? = some (.int .i64 f.i) ∧ cs[k * 4 + 2]? = some (.int .i64 f.j) ∧ cs[k * 4 + 3]? = some f.v) ∧ Rd w 1 f.v f.n (vals f.zs) := by
    intro k hk
    obtain ⟨m0, y0, v0, e0, h0⟩ := hl k hk 0 (by omega) _ l0
    obtain ⟨m1, y1, v1, e1, h1⟩ := hl k hk 1 (by omega) _ l1
    obtain ⟨m2, y2, v2, e2, h2⟩ := hl k hk 2 (by omega) _ l2
    obtain ⟨m3, y3, v3, e3, h3⟩ := hl k hk 3 (by omega) _ l3
    obtain ⟨a, ea, _, wa⟩ := DataW.trod_int u0 h0
    obtain ⟨b, eb, _, wb⟩ := DataW.trod_int u1 h1
    obtain ⟨c, ec, _, wc⟩ := DataW.trod_int u2 h2
    simp only [List.cons.injEq, and_true] at ea eb ec
    subst ea; subst eb; subst ec
    obtain ⟨n, zs, hz, _⟩ := open_ints_of 1 u3 hcs (by omega) ha h3
    exact ⟨⟨a, b, c, v3, n, zs⟩, ⟨e0, e1, e2, e3⟩, hz⟩
  have all : ∀ n, n ≤ len → ∃ fs : List FoundI, fs.length = n ∧ foundV fs = cs.take (n * 4) ∧ ∀ f ∈ fs, Rd w 1 f.v f.n (vals f.zs) := by
    intro n
    induction n with
    | zero => intro _; exact ⟨[], rfl, by simp [foundV], fun f hf => by simp at hf⟩
    | succ n ih =>
      intro hn
      obtain ⟨fs, h1, h2, h3⟩ := ih (by omega)
      obtain ⟨f, ⟨e0, e1, e2, e3⟩, hz⟩ := each n (by omega)
      refine ⟨fs ++ [f], by simp [h1], ?_, fun g hg => ?_⟩
      · rw [foundV_app, h2, show (n + 1) * 4 = n * 4 + 1 + 1 + 1 + 1 by omega, List.take_add_one, List.take_add_one, List.take_add_one, List.take_add_one, e0, e1, show n * 4 + 1 + 1 = n * 4 + 2 by omega, e2, show n * 4 + 2 + 1 = n * 4 + 3 by omega, e3]
        simp [foundV, foundC]
      · rcases List.mem_append.1 hg with h | h
        · exact h3 g h
        · rw [List.mem_singleton] at h
          subst h
          exact hz
  obtain ⟨fs, h1, h2, h3⟩ := all len (Nat.le_refl _)
  rw [List.take_of_length_le (by omega)] at h2
  refine ⟨fs, ?_, h3⟩
  rw [h1, h2]
  exact hr

theorem open_report {r : Reach} {b0 : Nat} {t i0 i1 t2 e j0 j1 j2 t3 s : TypeId} {ff : Array Field} {v : Value} {d : DataW H} {p : List MemPlace} (hs : P.underlying t = some (.struct ff)) (hc : P.cellsOf t = 3)
    (l0 : leaf P 8 t 0 = some i0) (l1 : leaf P 8 t 1 = some i1) (l2 : leaf P 8 t 2 = some t2)
    (u0 : P.underlying i0 = some (.int .i64)) (u1 : P.underlying i1 = some (.int .i64)) (ht : P.underlying t2 = some (.slice e)) (hce : P.cellsOf e = 4)
    (m0 : leaf P 8 e 0 = some j0) (m1 : leaf P 8 e 1 = some j1) (m2 : leaf P 8 e 2 = some j2) (m3 : leaf P 8 e 3 = some t3)
    (q0 : P.underlying j0 = some (.int .i64)) (q1 : P.underlying j1 = some (.int .i64)) (q2 : P.underlying j2 = some (.int .i64)) (q3 : P.underlying t3 = some (.slice s)) (hcs : P.cellsOf s = 1) (ha : allI64 P s = true)
    (hv : Value.okWide P w r b0 t v) (h : DataW.Trod enc P w base spare held t v d p) :
    ∃ (a b : Int) (u : Value) (fs : List FoundI), v = .agg #[.int .i64 a, .int .i64 b, u] ∧ Rd w 4 u fs.length (foundV fs) ∧ ∀ f ∈ fs, Rd w 1 f.v f.n (vals f.zs) := by
  obtain ⟨cs, rfl, hsz, hl⟩ := open_leaves hs hv h
  rw [hc] at hsz
  obtain ⟨n0, y0, v0, e0, h0'⟩ := hl 0 _ l0
  obtain ⟨n1, y1, v1, e1, h1'⟩ := hl 1 _ l1
  obtain ⟨n2, y2, v2, e2, h2'⟩ := hl 2 _ l2
  obtain ⟨a, ea, _, wa⟩ := DataW.trod_int u0 h0'
  obtain ⟨b, eb, _, wb⟩ := DataW.trod_int u1 h1'
  simp only [List.cons.injEq, and_true] at ea eb
  subst ea; subst eb
  obtain ⟨fs, hr, hrows⟩ := open_found ht hce m0 m1 m2 m3 q0 q1 q2 q3 hcs ha h2'
  refine ⟨a, b, v2, fs, ?_, hr, hrows⟩
  obtain ⟨l⟩ := cs
  match l, hsz with
  | [w0, w1, w2], _ =>
    simp only [List.getElem?_toArray, List.getElem?_cons_zero, List.getElem?_cons_succ, Option.some.injEq] at e0 e1 e2
    rw [e0, e1, e2]
end
end Go.Proofs.YtaffaliplmfagaaDoor.Open
