/-
  Arguments that hold slices of slices: what their cells are, at whatever depth.
-/
import Derived.Test.YtaffaliplmfagaaDoorOpen
namespace Go.Proofs.YtaffaliplmfagaaDoor.Open
open Go.RowKit Go.ChangeShapes Go.WideShapes Go.Deep Go.Proofs.YtaffaliplmfagaaDoor.Own

section
variable {H : Type} {enc : TypeId × Value → H} {P : Program} {w w' : World} {base : Nat} {spare : Nat → Bool} {held : Bool}

/-- A slice: its cells, each of which reads as its leaf's type says. -/
theorem open_cells {t e : TypeId} (size : Nat) {v : Value} {fuel : Nat} {x : DataW H × List MemPlace} (ht : P.underlying t = some (.slice e)) (hc : P.cellsOf e = size) (h0 : 0 < size)
    (h : DataW.trod enc P w base spare held fuel t [v] = some x) :
    ∃ (len : Nat) (cs : List Value), Rd w size v len cs ∧ ∀ k, k < len → ∀ j, j < size → ∀ s, leaf P 8 e j = some s → ∃ m y u, cs[k * size + j]? = some u ∧ DataW.trod enc P w base spare held m s [u] = some y := by
  rcases open_slice ht h with ⟨h1, _⟩ | ⟨a, len, cap, m, n, D, Pl, h1, hb, hle, hmax, hm, _, hx⟩
  · simp only [List.cons.injEq, and_true] at h1
    subst h1
    exact ⟨0, [], Rd.nil w size, fun k hk => by omega⟩
  · simp only [List.cons.injEq, and_true] at h1
    subst h1
    have hlm : len ≤ m := by rw [hm]; split <;> omega
    have row : ∀ i, i < len → ∃ cs, w.cells? base (a.add (i * size)) size = some cs ∧ DataW.trod enc P w base spare held n e cs = some (D i, Pl i) := fun i hi => by
      obtain ⟨cs, h1, h2⟩ := hx i (by omega)
      rw [hc] at h1
      exact ⟨cs, h1, h2⟩
    have each : ∀ k, k < len * size → ∃ u, w.cell? (a.add k) = some u := by
      intro k hk
      have hi : k / size < len := by rw [Nat.div_lt_iff_lt_mul h0]; exact hk
      obtain ⟨cs, hcs, _⟩ := row (k / size) hi
      obtain ⟨_, hcl, hat⟩ := World.cells?_some hcs
      have hj : k % size < size := Nat.mod_lt _ h0
      have := hat (k % size) hj
      rw [Go.Deep.add_add, show k / size * size + k % size = k by rw [Nat.mul_comm]; exact Nat.div_add_mod k size] at this
      rw [this]
      exact ⟨cs[k % size]'(by omega), List.getElem?_eq_getElem (by omega)⟩
    have hget : ∀ k, k < len * size → ((List.range (len * size)).map fun k => ((w.cell? (a.add k)).getD undef))[k]? = w.cell? (a.add k) := by
      intro k hk
      obtain ⟨u, hu⟩ := each k hk
      simp [hk, hu]
    refine ⟨len, (List.range (len * size)).map fun k => ((w.cell? (a.add k)).getD undef), ⟨by simp, some a, cap, rfl, hle, hmax, (fun hh => by cases hh), fun hl => ?_⟩, fun k hk j hj s hs => ?_⟩
    · have hp : 0 < len * size := Nat.mul_pos hl h0
      obtain ⟨z0, hz0⟩ := each 0 hp
      obtain ⟨b, off, spot⟩ := a
      have hspot : spot = none := by simpa [Addr.add] using World.cell?_spot hz0
      subst hspot
      refine ⟨b, off, rfl, ?_, fun j u hu => ?_⟩
      · have : w.cell? ⟨b, off, none⟩ = some z0 := by simpa [Addr.add] using hz0
        rcases Nat.lt_or_ge b w.heap.size with hlt | hge
        · exact hlt
        · simp [World.cell?, Array.getElem?_eq_none hge] at this
      · have hj : j < len * size := by
          have := (List.getElem?_eq_some_iff.1 hu).1
          simpa using this
        rw [hget j hj, Go.WideShapes.add_plain] at hu
        exact hu
    · obtain ⟨cs, hcs, htr⟩ := row k hk
      obtain ⟨_, hcl, hat⟩ := World.cells?_some hcs
      obtain ⟨m', y, u, hu, hy⟩ := trod_leaf 8 e j s n cs _ hs (by rw [hcl, hc]) htr
      refine ⟨m', y, u, ?_, hy⟩
      have hlt : k * size + j < len * size := by
        have : (k + 1) * size ≤ len * size := Nat.mul_le_mul_right _ hk
        rw [Nat.add_mul] at this; omega
      rw [hget _ hlt]
      have := hat j hj
      rw [Go.Deep.add_add] at this
      rw [this, hu]

/-- A slice of structs of integers (or of integers), by what reads it. -/
theorem open_ints_of {t e : TypeId} (size : Nat) {v : Value} {fuel : Nat} {x : DataW H × List MemPlace} (ht : P.underlying t = some (.slice e)) (hc : P.cellsOf e = size) (h0 : 0 < size) (ha : allI64 P e = true)
    (h : DataW.trod enc P w base spare held fuel t [v] = some x) :
    ∃ (len : Nat) (zs : List Int), Rd w size v len (vals zs) ∧ ∀ z ∈ zs, (Lit.int .i64 z).wf = true := by
  obtain ⟨len, cs, hr, hl⟩ := open_cells size ht hc h0 h
  obtain ⟨zs, rfl, hw⟩ := ints_of cs (fun k hk => by
    rw [hr.len] at hk
    have hi : k / size < len := by rw [Nat.div_lt_iff_lt_mul h0]; exact hk
    have hj : k % size < size := Nat.mod_lt _ h0
    have h1 := List.all_eq_true.1 ha (k % size) (List.mem_range.2 (by rw [hc]; exact hj))
    cases hlf : leaf P 8 e (k % size) with
    | none => simp [hlf] at h1
    | some s =>
      simp only [hlf, Option.bind_some] at h1
      obtain ⟨m, y, u, hu, hy⟩ := hl (k / size) hi (k % size) hj s hlf
      rw [show k / size * size + k % size = k by rw [Nat.mul_comm]; exact Nat.div_add_mod k size] at hu
      split at h1
      case h_2 => cases h1
      case h_1 hun =>
        obtain ⟨n, hn, _, hww⟩ := DataW.trod_int hun hy
        simp only [List.cons.injEq, and_true] at hn
        exact ⟨n, by rw [hu, hn], hww⟩)
  exact ⟨len, zs, hr, hw⟩

/-- A row of a slice of slices: its value, its length, its numbers. -/
structure RowI where
  v : Value
  n : Nat
  zs : List Int
/-- A slice of slices of structs of integers. -/
theorem open_rows_of {t e s : TypeId} (size : Nat) {v : Value} {fuel : Nat} {x : DataW H × List MemPlace} (ht : P.underlying t = some (.slice e)) (he : P.underlying e = some (.slice s)) (hc : P.cellsOf e = 1) (hcs : P.cellsOf s = size) (h0 : 0 < size) (ha : allI64 P s = true)
    (h : DataW.trod enc P w base spare held fuel t [v] = some x) :
    ∃ rows : List RowI, Rd w 1 v rows.length (rows.map (·.v)) ∧ ∀ r ∈ rows, Rd w size r.v r.n (vals r.zs) ∧ ∀ z ∈ r.zs, (Lit.int .i64 z).wf = true := by
  obtain ⟨len, cs, hr, hl⟩ := open_cells 1 ht hc (by omega) h
  have hlf : leaf P 8 e 0 = some e := by
    unfold leaf
    rw [he]
    simp [hc]
  have hlen := hr.len
  rw [Nat.mul_one] at hlen
  have gen : ∀ l : List Value, (∀ u ∈ l, ∃ n zs, Rd w size u n (vals zs) ∧ ∀ z ∈ zs, (Lit.int .i64 z).wf = true) → ∃ rows : List RowI, l = rows.map (·.v) ∧ ∀ r ∈ rows, Rd w size r.v r.n (vals r.zs) ∧ ∀ z ∈ r.zs, (Lit.int .i64 z).wf = true := by
    intro l
    induction l with
    | nil => intro _; exact ⟨[], rfl, by simp⟩
    | cons u l ih =>
      intro hu
      obtain ⟨rows, h1, h2⟩ := ih (fun u' hu' => hu u' (by simp [hu']))
      obtain ⟨n, zs, h3, h4⟩ := hu u (by simp)
      exact ⟨⟨u, n, zs⟩ :: rows, by simp [h1], by simpa using ⟨⟨h3, h4⟩, h2⟩⟩
  obtain ⟨rows, rfl, hrows⟩ := gen cs (fun u hu => by
    obtain ⟨k, hk⟩ := List.getElem?_of_mem hu
    have hk' : k < len := by rw [← hlen]; exact (List.getElem?_eq_some_iff.1 hk).1
    obtain ⟨m, y, u', hu', hy⟩ := hl k hk' 0 (by omega) e hlf
    rw [Nat.mul_one, Nat.add_zero, hk] at hu'
    obtain rfl := Option.some.inj hu'
    exact open_ints_of size he hcs h0 ha hy)
  rw [List.length_map] at hlen
  subst hlen
  exact ⟨rows, hr, hrows⟩

/-- A struct by value: its cells, each of which reads as its leaf's type says. -/
theorem open_leaves {r : Reach} {b0 : Nat} {t : TypeId} {fs : Array Field} {v : Value} {d : DataW H} {p : List MemPlace} (hs : P.underlying t = some (.struct fs))
    (hv : Value.okWide P w r b0 t v) (h : DataW.Trod enc P w base spare held t v d p) :
    ∃ cs : Array Value, v = .agg cs ∧ cs.size = P.cellsOf t ∧ ∀ j s, leaf P 8 t j = some s → ∃ m y u, cs[j]? = some u ∧ DataW.trod enc P w base spare held m s [u] = some y := by
  obtain ⟨cs, rfl, hsz⟩ := okWide_struct hs hv
  obtain ⟨fuel, hf⟩ := h
  have hf' : DataW.trod enc P w base spare held fuel t cs.toList = some (d, p) := by simpa [Value.cells] using hf
  refine ⟨cs, rfl, hsz, fun j s hl => ?_⟩
  obtain ⟨m, y, u, hu, hy⟩ := trod_leaf 8 t j s fuel cs.toList _ hl (by simpa using hsz) hf'
  exact ⟨m, y, u, by simpa using hu, hy⟩

/-- Three integers and a slice of slices of structs of integers. -/
theorem open_prog {r : Reach} {b0 : Nat} {t i0 i1 i2 t3 e s : TypeId} (size : Nat) {fs : Array Field} {v : Value} {d : DataW H} {p : List MemPlace} (hs : P.underlying t = some (.struct fs)) (hc : P.cellsOf t = 4)
    (l0 : leaf P 8 t 0 = some i0) (l1 : leaf P 8 t 1 = some i1) (l2 : leaf P 8 t 2 = some i2) (l3 : leaf P 8 t 3 = some t3)
    (u0 : P.underlying i0 = some (.int .i64)) (u1 : P.underlying i1 = some (.int .i64)) (u2 : P.underlying i2 = some (.int .i64))
    (ht : P.underlying t3 = some (.slice e)) (he : P.underlying e = some (.slice s)) (hce : P.cellsOf e = 1) (hcs : P.cellsOf s = size) (h0 : 0 < size) (ha : allI64 P s = true)
    (hv : Value.okWide P w r b0 t v) (h : DataW.Trod enc P w base spare held t v d p) :
    ∃ (a b c : Int) (u : Value) (rows : List RowI), v = .agg #[.int .i64 a, .int .i64 b, .int .i64 c, u] ∧ (Lit.int .i64 a).wf = true ∧ (Lit.int .i64 b).wf = true ∧ (Lit.int .i64 c).wf = true ∧
      Rd w 1 u rows.length (rows.map (·.v)) ∧ ∀ q ∈ rows, Rd w size q.v q.n (vals q.zs) ∧ ∀ z ∈ q.zs, (Lit.int .i64 z).wf = true := by
  obtain ⟨cs, rfl, hsz, hl⟩ := open_leaves hs hv h
  rw [hc] at hsz
  obtain ⟨m0, y0, v0, e0, h0'⟩ := hl 0 _ l0
  obtain ⟨m1, y1, v1, e1, h1'⟩ := hl 1 _ l1
  obtain ⟨m2, y2, v2, e2, h2'⟩ := hl 2 _ l2
  obtain ⟨m3, y3, v3, e3, h3'⟩ := hl 3 _ l3
  obtain ⟨a, ea, _, wa⟩ := DataW.trod_int u0 h0'
  obtain ⟨b, eb, _, wb⟩ := DataW.trod_int u1 h1'
  obtain ⟨c, ec, _, wc⟩ := DataW.trod_int u2 h2'
  simp only [List.cons.injEq, and_true] at ea eb ec
  subst ea; subst eb; subst ec
  obtain ⟨rows, hr, hrows⟩ := open_rows_of size ht he hce hcs h0 ha h3'
  refine ⟨a, b, c, v3, rows, ?_, wa, wb, wc, hr, hrows⟩
  obtain ⟨l⟩ := cs
  match l, hsz with
  | [w0, w1, w2, w3], _ =>
    simp only [List.getElem?_toArray, List.getElem?_cons_zero, List.getElem?_cons_succ, Option.some.injEq] at e0 e1 e2 e3
    rw [e0, e1, e2, e3]
end
end Go.Proofs.YtaffaliplmfagaaDoor.Open
