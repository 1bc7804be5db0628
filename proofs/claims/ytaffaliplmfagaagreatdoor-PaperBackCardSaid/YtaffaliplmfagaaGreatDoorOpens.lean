/-
  Arguments opened: what a reading of an argument tells of its cells, for slices of structs of integers however deep, and for such structs by value; all arguments read again behind a call that has turned nothing below. Arguments that hold slices of slices: what their cells are, at whatever depth. A report as an argument.
-/
import Derived.Test.YtaffaliplmfagaaGreatDoorOwn
import Derived.ProofKit
import Derived.OpenShut
import Derived.Deep.Slices
import Derived.Deep.Fields
import Derived.ChangeArms
import Derived.ChangeMaps5
import Derived.Test.YtaffaliplmfagaaGreatDoorPap2
namespace Go.Proofs.YtaffaliplmfagaaGreatDoor.Open
open Go.RowKit Go.ChangeShapes Go.WideShapes Go.Deep Go.Proofs.YtaffaliplmfagaaGreatDoor.Own

/-- The type of the leaf that lies at cell j of a value of type t. -/
def leaf (P : Program) : Nat → TypeId → Nat → Option TypeId
  | 0, _, _ => none
  | n + 1, t, j => match P.underlying t with
    | some (.struct fs) => fs.toList.findSome? fun f => if f.offset ≤ j ∧ j < f.offset + P.cellsOf f.type ∧ f.offset + P.cellsOf f.type ≤ P.cellsOf t then leaf P n f.type (j - f.offset) else none
    | _ => if j = 0 ∧ P.cellsOf t = 1 then some t else none

section
variable {H : Type} {enc : TypeId × Value → H} {P : Program} {w w' : World} {base : Nat} {spare : Nat → Bool} {held : Bool}

theorem trod_leaf (n : Nat) : ∀ (t : TypeId) (j : Nat) (s : TypeId) (fuel : Nat) (cs : List Value) (x : DataW H × List MemPlace),
    leaf P n t j = some s → cs.length = P.cellsOf t → DataW.trod enc P w base spare held fuel t cs = some x →
    ∃ m y v, cs[j]? = some v ∧ DataW.trod enc P w base spare held m s [v] = some y := by
  induction n with
  | zero => intro t j s fuel cs x h; simp [leaf] at h
  | succ n ih =>
    intro t j s fuel cs x hl hc ht
    unfold leaf at hl
    split at hl
    · rename_i fs hu
      obtain ⟨ys, m, _, _, _, hlen, hf⟩ := DataW.trod_struct hu ht
      obtain ⟨f, hmem, hsome⟩ := List.exists_of_findSome?_eq_some hl
      split at hsome
      case isFalse => cases hsome
      case isTrue hcond =>
        obtain ⟨h1, h2, h3⟩ := hcond
        obtain ⟨i, hi⟩ := List.getElem?_of_mem hmem
        rw [Array.getElem?_toList] at hi
        have hfi := hf i f hi
        have hil : i < fs.size := (Array.getElem?_eq_some_iff.1 hi).1
        have hys : ys[i]? = some (ys[i]'(by omega)) := List.getElem?_eq_getElem (by omega)
        rw [hys] at hfi
        have hsub : ((cs.drop f.offset).take (P.cellsOf f.type)).length = P.cellsOf f.type := by
          rw [List.length_take, List.length_drop]; omega
        obtain ⟨m', y, v, hv, hy⟩ := ih f.type (j - f.offset) s m _ _ hsome hsub hfi
        refine ⟨m', y, v, ?_, hy⟩
        rw [List.getElem?_take, if_pos (by omega), List.getElem?_drop, show f.offset + (j - f.offset) = j by omega] at hv
        exact hv
    · split at hl
      case isFalse => cases hl
      case isTrue hcond =>
        obtain ⟨rfl, h1⟩ := hcond
        cases hl
        rw [h1] at hc
        obtain ⟨v, rfl⟩ := List.length_eq_one_iff.1 hc
        exact ⟨fuel, x, v, rfl, ht⟩

/-- Every cell of a value of type e is an integer of 64 bits with a sign. -/
def allI64 (P : Program) (e : TypeId) : Bool := (List.range (P.cellsOf e)).all fun j => match (leaf P 8 e j).bind P.underlying with
  | some (.int .i64) => true
  | _ => false

theorem i64_at {e : TypeId} (h : allI64 P e = true) {fuel : Nat} {cs : List Value} {x : DataW H × List MemPlace} (hc : cs.length = P.cellsOf e) (ht : DataW.trod enc P w base spare held fuel e cs = some x) (j : Nat) (hj : j < P.cellsOf e) :
    ∃ n, cs[j]? = some (.int .i64 n) ∧ (Lit.int .i64 n).wf = true := by
  have h1 := List.all_eq_true.1 h j (List.mem_range.2 hj)
  cases hl : leaf P 8 e j with
  | none => simp [hl] at h1
  | some s =>
    obtain ⟨m, y, v, hv, hy⟩ := trod_leaf 8 e j s fuel cs x hl hc ht
    simp only [hl, Option.bind_some] at h1
    split at h1
    case h_2 => cases h1
    case h_1 hu =>
      obtain ⟨n, hn, _, hw⟩ := DataW.trod_int hu hy
      simp only [List.cons.injEq, and_true] at hn
      exact ⟨n, by rw [hv, hn], hw⟩

theorem ints_of (cs : List Value) (h : ∀ j, j < cs.length → ∃ n, cs[j]? = some (.int .i64 n) ∧ (Lit.int .i64 n).wf = true) : ∃ zs : List Int, cs = vals zs ∧ ∀ z ∈ zs, (Lit.int .i64 z).wf = true := by
  induction cs with
  | nil => exact ⟨[], rfl, by simp⟩
  | cons c cs ih =>
    obtain ⟨n, hn, hw⟩ := h 0 (by simp)
    simp only [List.getElem?_cons_zero, Option.some.injEq] at hn
    obtain ⟨zs, rfl, hz⟩ := ih (fun j hj => by simpa using h (j + 1) (by simp; omega))
    exact ⟨n :: zs, by rw [hn]; rfl, by simpa using ⟨hw, hz⟩⟩

/-- A struct of such integers, by value. -/
theorem open_agg_i64 {r : Reach} {b0 : Nat} {t : TypeId} {fs : Array Field} {v : Value} {d : DataW H} {p : List MemPlace} (hs : P.underlying t = some (.struct fs)) (ha : allI64 P t = true)
    (hv : Value.okWide P w r b0 t v) (h : DataW.Trod enc P w base spare held t v d p) :
    ∃ zs : List Int, v = .agg (vals zs).toArray ∧ zs.length = P.cellsOf t ∧ ∀ z ∈ zs, (Lit.int .i64 z).wf = true := by
  obtain ⟨cs, rfl, hsz⟩ := okWide_struct hs hv
  obtain ⟨fuel, hf⟩ := h
  have hf' : DataW.trod enc P w base spare held fuel t cs.toList = some (d, p) := by simpa [Value.cells] using hf
  have hc : cs.toList.length = P.cellsOf t := by simpa using hsz
  obtain ⟨zs, hz, hw⟩ := ints_of cs.toList (fun j hj => i64_at ha hc hf' j (by omega))
  refine ⟨zs, ?_, ?_, hw⟩
  · rw [← hz]
  · have := congrArg List.length hz
    rw [vals_len] at this
    omega

/-- A slice of structs of such integers (or of such integers). -/
theorem open_i64s {r : Reach} {b0 : Nat} {t e : TypeId} (size : Nat) {v : Value} {d : DataW H} {p : List MemPlace} (ht : P.underlying t = some (.slice e)) (hc : P.cellsOf e = size) (h0 : 0 < size) (ha : allI64 P e = true)
    (hv : Value.okWide P w r b0 t v) (h : DataW.Trod enc P w base spare held t v d p) :
    ∃ (len : Nat) (zs : List Int), Rd w size v len (vals zs) ∧ (∀ z ∈ zs, (Lit.int .i64 z).wf = true) := by
  obtain ⟨ao, len, cap, rfl⟩ := okWide_slice ht hv
  obtain ⟨fuel, hf⟩ := h
  rcases open_slice ht (by simpa [Value.cells] using hf) with ⟨h1, _⟩ | ⟨a, len', cap', m, n, D, Pl, h1, hb, hle, hmax, hm, _, hx⟩
  · simp only [List.cons.injEq, Value.slice.injEq, and_true] at h1
    obtain ⟨rfl, rfl, rfl⟩ := h1
    exact ⟨0, [], Rd.nil w size, by simp⟩
  · simp only [List.cons.injEq, Value.slice.injEq, and_true] at h1
    obtain ⟨rfl, rfl, rfl⟩ := h1
    have hlm : len ≤ m := by rw [hm]; split <;> omega
    have each : ∀ k, k < len * size → ∃ z, w.cell? (a.add k) = some (.int .i64 z) ∧ (Lit.int .i64 z).wf = true := by
      intro k hk
      have hi : k / size < len := by rw [Nat.div_lt_iff_lt_mul h0]; exact hk
      obtain ⟨cs, hcs, htr⟩ := hx (k / size) (by omega)
      rw [hc] at hcs
      obtain ⟨_, hcl, hat⟩ := World.cells?_some hcs
      have hj : k % size < size := Nat.mod_lt _ h0
      obtain ⟨z, hz, hw⟩ := i64_at ha (by rw [hcl, hc]) htr (k % size) (by rw [hc]; exact hj)
      refine ⟨z, ?_, hw⟩
      have := hat (k % size) hj
      rw [Go.Deep.add_add, show k / size * size + k % size = k by rw [Nat.mul_comm]; exact Nat.div_add_mod k size] at this
      rw [this, hz]
    obtain ⟨zs, hz, hw⟩ := ints_of ((List.range (len * size)).map fun k => ((w.cell? (a.add k)).getD undef)) (fun j hj => by
      simp only [List.length_map, List.length_range] at hj
      obtain ⟨z, h1, h2⟩ := each j hj
      exact ⟨z, by simp [hj, h1], h2⟩)
    refine ⟨len, zs, ⟨by rw [← hz]; simp, some a, cap, rfl, hle, hmax, (fun hh => by cases hh), fun hl => ?_⟩, hw⟩
    have hp : 0 < len * size := Nat.mul_pos hl h0
    obtain ⟨z0, hz0, _⟩ := each 0 hp
    obtain ⟨b, off, spot⟩ := a
    have hspot : spot = none := by simpa [Addr.add] using World.cell?_spot hz0
    subst hspot
    refine ⟨b, off, rfl, ?_, fun j u hu => ?_⟩
    · have : w.cell? ⟨b, off, none⟩ = some (.int .i64 z0) := by simpa [Addr.add] using hz0
      rcases Nat.lt_or_ge b w.heap.size with hlt | hge
      · exact hlt
      · simp [World.cell?, Array.getElem?_eq_none hge] at this
    · rw [← hz] at hu
      have hj : j < len * size := by
        have := (List.getElem?_eq_some_iff.1 hu).1
        simpa using this
      obtain ⟨z, h1, _⟩ := each j hj
      rw [Go.WideShapes.add_plain] at h1
      simp [hj, Go.WideShapes.add_plain, h1] at hu
      rw [h1, ← hu]

/-- A slice of integers of whatever kind. -/
theorem open_kinds {r : Reach} {b0 : Nat} {t e : TypeId} {k : IntKind} {v : Value} {d : DataW H} {p : List MemPlace} (ht : P.underlying t = some (.slice e)) (he : P.underlying e = some (.int k)) (hc : P.cellsOf e = 1)
    (hv : Value.okWide P w r b0 t v) (h : DataW.Trod enc P w base spare held t v d p) :
    ∃ (len : Nat) (zs : List Int), Rd w 1 v len (zs.map (Value.int k)) ∧ (∀ z ∈ zs, (Lit.int k z).wf = true) := by
  obtain ⟨ao, len, cap, rfl⟩ := okWide_slice ht hv
  obtain ⟨fuel, hf⟩ := h
  rcases open_slice ht (by simpa [Value.cells] using hf) with ⟨h1, _⟩ | ⟨a, len', cap', m, n, D, Pl, h1, hb, hle, hmax, hm, _, hx⟩
  · simp only [List.cons.injEq, Value.slice.injEq, and_true] at h1
    obtain ⟨rfl, rfl, rfl⟩ := h1
    exact ⟨0, [], Rd.nil w 1, by simp⟩
  · simp only [List.cons.injEq, Value.slice.injEq, and_true] at h1
    obtain ⟨rfl, rfl, rfl⟩ := h1
    have hlm : len ≤ m := by rw [hm]; split <;> omega
    have each : ∀ j, j < len → ∃ z, w.cell? (a.add j) = some (.int k z) ∧ (Lit.int k z).wf = true := by
      intro j hj
      obtain ⟨cs, hcs, htr⟩ := hx j (by omega)
      rw [hc] at hcs
      obtain ⟨_, hcl, hat⟩ := World.cells?_some hcs
      obtain ⟨c, rfl⟩ := List.length_eq_one_iff.1 hcl
      obtain ⟨z, hz, _, hw⟩ := DataW.trod_int he htr
      simp only [List.cons.injEq, and_true] at hz
      have := hat 0 (by omega)
      rw [Go.Deep.add_add, Nat.mul_one, Nat.add_zero] at this
      exact ⟨z, by rw [this, hz]; rfl, hw⟩
    obtain ⟨zs, hz, hw⟩ : ∃ zs : List Int, (List.range len).map (fun j => (w.cell? (a.add j)).getD undef) = zs.map (Value.int k) ∧ ∀ z ∈ zs, (Lit.int k z).wf = true := by
      have gen : ∀ l : List Nat, (∀ j ∈ l, j < len) → ∃ zs : List Int, l.map (fun j => (w.cell? (a.add j)).getD undef) = zs.map (Value.int k) ∧ ∀ z ∈ zs, (Lit.int k z).wf = true := by
        intro l
        induction l with
        | nil => intro _; exact ⟨[], rfl, by simp⟩
        | cons j l ih =>
          intro hl
          obtain ⟨zs, h1, h2⟩ := ih (fun i hi => hl i (by simp [hi]))
          obtain ⟨z, h3, h4⟩ := each j (hl j (by simp))
          exact ⟨z :: zs, by simp [h1, h3], by simpa using ⟨h4, h2⟩⟩
      exact gen _ (fun j hj => List.mem_range.1 hj)
    refine ⟨len, zs, ⟨by rw [← hz]; simp, some a, cap, rfl, hle, hmax, (fun hh => by cases hh), fun hl => ?_⟩, hw⟩
    obtain ⟨z0, hz0, _⟩ := each 0 hl
    obtain ⟨b, off, spot⟩ := a
    have hspot : spot = none := by simpa [Addr.add] using World.cell?_spot hz0
    subst hspot
    refine ⟨b, off, rfl, ?_, fun j u hu => ?_⟩
    · have : w.cell? ⟨b, off, none⟩ = some (.int k z0) := by simpa [Addr.add] using hz0
      rcases Nat.lt_or_ge b w.heap.size with hlt | hge
      · exact hlt
      · simp [World.cell?, Array.getElem?_eq_none hge] at this
    · rw [← hz] at hu
      have hj : j < len := by
        have := (List.getElem?_eq_some_iff.1 hu).1
        simpa using this
      obtain ⟨z, h1, _⟩ := each j hj
      rw [Go.WideShapes.add_plain] at h1
      simp [hj, Go.WideShapes.add_plain, h1] at hu
      rw [h1, ← hu]

theorem wf_bd {a : Int} (h : (Lit.int .i64 a).wf = true) : -9223372036854775808 ≤ a ∧ a ≤ 9223372036854775807 := by
  simp [Lit.wf, IntKind.min, IntKind.max, IntKind.signed, IntKind.bits] at h
  omega
theorem wf_u8_bd {a : Int} (h : (Lit.int .u8 a).wf = true) : 0 ≤ a ∧ a < 256 := by
  simp [Lit.wf, IntKind.min, IntKind.max, IntKind.signed, IntKind.bits] at h
  omega

/-- All arguments read as they did, behind a call that has turned nothing below. -/
theorem below_trodAll (hl : laidOutB P = true) {W W' : World} (hb : Below W.heap.size W W') : ∀ (ts : List TypeId) (vs : List Value) (ds : List (DataW H)) (ps : List MemPlace),
    (∀ t ∈ ts, P.readableRec t = true ∧ t < P.types.size) → DataW.TrodAll enc P W 0 (fun _ => true) true ts vs ds ps → (∀ x ∈ ps, x.block < W.heap.size) →
    DataW.TrodAll enc P W' 0 (fun b => decide (b < W.heap.size)) true ts vs ds ps
  | [], vs, ds, ps, _, h, _ => by
    obtain ⟨rfl, rfl, rfl⟩ := trodAll_nil h
    exact trodAll_mk0
  | t :: ts, vs, ds, ps, hr, h, hlt => by
    obtain ⟨v, vs', d, ds', p, q, rfl, rfl, rfl, h1, h2⟩ := trodAll_cons h
    exact trodAll_cons_mk (Below.trod hl (hr t (by simp)).1 (hr t (by simp)).2 h1 hb (fun x hx => hlt x (by simp [hx])))
      (below_trodAll hl hb ts vs' ds' q (fun t' ht' => hr t' (by simp [ht'])) h2 (fun x hx => hlt x (by simp [hx])))
theorem below_args (hl : laidOutB P = true) {W W' : World} (hb : Below W.heap.size W W') {ts : List TypeId} {vs : List Value} {ds : List (DataW H)} {ps : List MemPlace}
    (hr : (ts.all fun t => P.readableRec t && decide (t < P.types.size)) = true) (h : DataW.TrodAll enc P W 0 (fun _ => true) true ts vs ds ps) (hlt : ∀ x ∈ ps, x.block < W.heap.size) :
    DataW.TrodAll enc P W' 0 (fun b => decide (b < W.heap.size)) true ts vs ds ps :=
  below_trodAll hl hb ts vs ds ps (fun t ht => by have := List.all_eq_true.1 hr t ht; simpa using this) h hlt
end
end Go.Proofs.YtaffaliplmfagaaGreatDoor.Open

namespace Go.Proofs.YtaffaliplmfagaaGreatDoor.Open
open Go.RowKit Go.ChangeShapes Go.WideShapes Go.Deep Go.Proofs.YtaffaliplmfagaaGreatDoor.Own

section
variable {H : Type} {enc : TypeId × Value → H} {P : Program} {w w' : World} {base : Nat} {spare : Nat → Bool} {held : Bool}

/-- A slice: its cells, each of which reads as its leaf's type says. -/
theorem open_cells {t e : TypeId} (size : Nat) {v : Value} {fuel : Nat} {x : DataW H × List MemPlace} (ht : P.underlying t = some (.slice e)) (hc : P.cellsOf e = size) (h0 : 0 < size)
    (h : DataW.trod enc P w base spare held fuel t [v] = some x) :
    ∃ (len : Nat) (cs : List Value), Rd w size v len cs ∧ ∀ k, k < len → ∀ j, j < size → ∀ s, leaf P 8 e j = some s → ∃ m y u, cs[k * size + j]? = some u ∧ DataW.trod enc P w base spare held m s [u] = some y := by
  rcases open_slice ht h with ⟨h1, _⟩ | ⟨a, len, cap, m, n, D, Pl, h1, hb, hle, hmax, hm, _, hx⟩
  · simp only [List.cons.injEq, and_true] at h1
    subst h1
    exact ⟨0, [], Rd.nil w size, fun k hk => by omega⟩
  · simp only [List.cons.injEq, and_true] at h1
    subst h1
    have hlm : len ≤ m := by rw [hm]; split <;> omega
    have row : ∀ i, i < len → ∃ cs, w.cells? base (a.add (i * size)) size = some cs ∧ DataW.trod enc P w base spare held n e cs = some (D i, Pl i) := fun i hi => by
      obtain ⟨cs, h1, h2⟩ := hx i (by omega)
      rw [hc] at h1
      exact ⟨cs, h1, h2⟩
    have each : ∀ k, k < len * size → ∃ u, w.cell? (a.add k) = some u := by
      intro k hk
      have hi : k / size < len := by rw [Nat.div_lt_iff_lt_mul h0]; exact hk
      obtain ⟨cs, hcs, _⟩ := row (k / size) hi
      obtain ⟨_, hcl, hat⟩ := World.cells?_some hcs
      have hj : k % size < size := Nat.mod_lt _ h0
      have := hat (k % size) hj
      rw [Go.Deep.add_add, show k / size * size + k % size = k by rw [Nat.mul_comm]; exact Nat.div_add_mod k size] at this
      rw [this]
      exact ⟨cs[k % size]'(by omega), List.getElem?_eq_getElem (by omega)⟩
    have hget : ∀ k, k < len * size → ((List.range (len * size)).map fun k => ((w.cell? (a.add k)).getD undef))[k]? = w.cell? (a.add k) := by
      intro k hk
      obtain ⟨u, hu⟩ := each k hk
      simp [hk, hu]
    refine ⟨len, (List.range (len * size)).map fun k => ((w.cell? (a.add k)).getD undef), ⟨by simp, some a, cap, rfl, hle, hmax, (fun hh => by cases hh), fun hl => ?_⟩, fun k hk j hj s hs => ?_⟩
    · have hp : 0 < len * size := Nat.mul_pos hl h0
      obtain ⟨z0, hz0⟩ := each 0 hp
      obtain ⟨b, off, spot⟩ := a
      have hspot : spot = none := by simpa [Addr.add] using World.cell?_spot hz0
      subst hspot
      refine ⟨b, off, rfl, ?_, fun j u hu => ?_⟩
      · have : w.cell? ⟨b, off, none⟩ = some z0 := by simpa [Addr.add] using hz0
        rcases Nat.lt_or_ge b w.heap.size with hlt | hge
        · exact hlt
        · simp [World.cell?, Array.getElem?_eq_none hge] at this
      · have hj : j < len * size := by
          have := (List.getElem?_eq_some_iff.1 hu).1
          simpa using this
        rw [hget j hj, Go.WideShapes.add_plain] at hu
        exact hu
    · obtain ⟨cs, hcs, htr⟩ := row k hk
      obtain ⟨_, hcl, hat⟩ := World.cells?_some hcs
      obtain ⟨m', y, u, hu, hy⟩ := trod_leaf 8 e j s n cs _ hs (by rw [hcl, hc]) htr
      refine ⟨m', y, u, ?_, hy⟩
      have hlt : k * size + j < len * size := by
        have : (k + 1) * size ≤ len * size := Nat.mul_le_mul_right _ hk
        rw [Nat.add_mul] at this; omega
      rw [hget _ hlt]
      have := hat j hj
      rw [Go.Deep.add_add] at this
      rw [this, hu]

/-- A slice of structs of integers (or of integers), by what reads it. -/
theorem open_ints_of {t e : TypeId} (size : Nat) {v : Value} {fuel : Nat} {x : DataW H × List MemPlace} (ht : P.underlying t = some (.slice e)) (hc : P.cellsOf e = size) (h0 : 0 < size) (ha : allI64 P e = true)
    (h : DataW.trod enc P w base spare held fuel t [v] = some x) :
    ∃ (len : Nat) (zs : List Int), Rd w size v len (vals zs) ∧ ∀ z ∈ zs, (Lit.int .i64 z).wf = true := by
  obtain ⟨len, cs, hr, hl⟩ := open_cells size ht hc h0 h
  obtain ⟨zs, rfl, hw⟩ := ints_of cs (fun k hk => by
    rw [hr.len] at hk
    have hi : k / size < len := by rw [Nat.div_lt_iff_lt_mul h0]; exact hk
    have hj : k % size < size := Nat.mod_lt _ h0
    have h1 := List.all_eq_true.1 ha (k % size) (List.mem_range.2 (by rw [hc]; exact hj))
    cases hlf : leaf P 8 e (k % size) with
    | none => simp [hlf] at h1
    | some s =>
      simp only [hlf, Option.bind_some] at h1
      obtain ⟨m, y, u, hu, hy⟩ := hl (k / size) hi (k % size) hj s hlf
      rw [show k / size * size + k % size = k by rw [Nat.mul_comm]; exact Nat.div_add_mod k size] at hu
      split at h1
      case h_2 => cases h1
      case h_1 hun =>
        obtain ⟨n, hn, _, hww⟩ := DataW.trod_int hun hy
        simp only [List.cons.injEq, and_true] at hn
        exact ⟨n, by rw [hu, hn], hww⟩)
  exact ⟨len, zs, hr, hw⟩

/-- A row of a slice of slices: its value, its length, its numbers. -/
structure RowI where
  v : Value
  n : Nat
  zs : List Int
/-- A slice of slices of structs of integers. -/
theorem open_rows_of {t e s : TypeId} (size : Nat) {v : Value} {fuel : Nat} {x : DataW H × List MemPlace} (ht : P.underlying t = some (.slice e)) (he : P.underlying e = some (.slice s)) (hc : P.cellsOf e = 1) (hcs : P.cellsOf s = size) (h0 : 0 < size) (ha : allI64 P s = true)
    (h : DataW.trod enc P w base spare held fuel t [v] = some x) :
    ∃ rows : List RowI, Rd w 1 v rows.length (rows.map (·.v)) ∧ ∀ r ∈ rows, Rd w size r.v r.n (vals r.zs) ∧ ∀ z ∈ r.zs, (Lit.int .i64 z).wf = true := by
  obtain ⟨len, cs, hr, hl⟩ := open_cells 1 ht hc (by omega) h
  have hlf : leaf P 8 e 0 = some e := by
    unfold leaf
    rw [he]
    simp [hc]
  have hlen := hr.len
  rw [Nat.mul_one] at hlen
  have gen : ∀ l : List Value, (∀ u ∈ l, ∃ n zs, Rd w size u n (vals zs) ∧ ∀ z ∈ zs, (Lit.int .i64 z).wf = true) → ∃ rows : List RowI, l = rows.map (·.v) ∧ ∀ r ∈ rows, Rd w size r.v r.n (vals r.zs) ∧ ∀ z ∈ r.zs, (Lit.int .i64 z).wf = true := by
    intro l
    induction l with
    | nil => intro _; exact ⟨[], rfl, by simp⟩
    | cons u l ih =>
      intro hu
      obtain ⟨rows, h1, h2⟩ := ih (fun u' hu' => hu u' (by simp [hu']))
      obtain ⟨n, zs, h3, h4⟩ := hu u (by simp)
      exact ⟨⟨u, n, zs⟩ :: rows, by simp [h1], by simpa using ⟨⟨h3, h4⟩, h2⟩⟩
  obtain ⟨rows, rfl, hrows⟩ := gen cs (fun u hu => by
    obtain ⟨k, hk⟩ := List.getElem?_of_mem hu
    have hk' : k < len := by rw [← hlen]; exact (List.getElem?_eq_some_iff.1 hk).1
    obtain ⟨m, y, u', hu', hy⟩ := hl k hk' 0 (by omega) e hlf
    rw [Nat.mul_one, Nat.add_zero, hk] at hu'
    obtain rfl := Option.some.inj hu'
    exact open_ints_of size he hcs h0 ha hy)
  rw [List.length_map] at hlen
  subst hlen
  exact ⟨rows, hr, hrows⟩

/-- A struct by value: its cells, each of which reads as its leaf's type says. -/
theorem open_leaves {r : Reach} {b0 : Nat} {t : TypeId} {fs : Array Field} {v : Value} {d : DataW H} {p : List MemPlace} (hs : P.underlying t = some (.struct fs))
    (hv : Value.okWide P w r b0 t v) (h : DataW.Trod enc P w base spare held t v d p) :
    ∃ cs : Array Value, v = .agg cs ∧ cs.size = P.cellsOf t ∧ ∀ j s, leaf P 8 t j = some s → ∃ m y u, cs[j]? = some u ∧ DataW.trod enc P w base spare held m s [u] = some y := by
  obtain ⟨cs, rfl, hsz⟩ := okWide_struct hs hv
  obtain ⟨fuel, hf⟩ := h
  have hf' : DataW.trod enc P w base spare held fuel t cs.toList = some (d, p) := by simpa [Value.cells] using hf
  refine ⟨cs, rfl, hsz, fun j s hl => ?_⟩
  obtain ⟨m, y, u, hu, hy⟩ := trod_leaf 8 t j s fuel cs.toList _ hl (by simpa using hsz) hf'
  exact ⟨m, y, u, by simpa using hu, hy⟩

/-- Three integers and a slice of slices of structs of integers. -/
theorem open_prog {r : Reach} {b0 : Nat} {t i0 i1 i2 t3 e s : TypeId} (size : Nat) {fs : Array Field} {v : Value} {d : DataW H} {p : List MemPlace} (hs : P.underlying t = some (.struct fs)) (hc : P.cellsOf t = 4)
    (l0 : leaf P 8 t 0 = some i0) (l1 : leaf P 8 t 1 = some i1) (l2 : leaf P 8 t 2 = some i2) (l3 : leaf P 8 t 3 = some t3)
    (u0 : P.underlying i0 = some (.int .i64)) (u1 : P.underlying i1 = some (.int .i64)) (u2 : P.underlying i2 = some (.int .i64))
    (ht : P.underlying t3 = some (.slice e)) (he : P.underlying e = some (.slice s)) (hce : P.cellsOf e = 1) (hcs : P.cellsOf s = size) (h0 : 0 < size) (ha : allI64 P s = true)
    (hv : Value.okWide P w r b0 t v) (h : DataW.Trod enc P w base spare held t v d p) :
    ∃ (a b c : Int) (u : Value) (rows : List RowI), v = .agg #[.int .i64 a, .int .i64 b, .int .i64 c, u] ∧ (Lit.int .i64 a).wf = true ∧ (Lit.int .i64 b).wf = true ∧ (Lit.int .i64 c).wf = true ∧
      Rd w 1 u rows.length (rows.map (·.v)) ∧ ∀ q ∈ rows, Rd w size q.v q.n (vals q.zs) ∧ ∀ z ∈ q.zs, (Lit.int .i64 z).wf = true := by
  obtain ⟨cs, rfl, hsz, hl⟩ := open_leaves hs hv h
  rw [hc] at hsz
  obtain ⟨m0, y0, v0, e0, h0'⟩ := hl 0 _ l0
  obtain ⟨m1, y1, v1, e1, h1'⟩ := hl 1 _ l1
  obtain ⟨m2, y2, v2, e2, h2'⟩ := hl 2 _ l2
  obtain ⟨m3, y3, v3, e3, h3'⟩ := hl 3 _ l3
  obtain ⟨a, ea, _, wa⟩ := DataW.trod_int u0 h0'
  obtain ⟨b, eb, _, wb⟩ := DataW.trod_int u1 h1'
  obtain ⟨c, ec, _, wc⟩ := DataW.trod_int u2 h2'
  simp only [List.cons.injEq, and_true] at ea eb ec
  subst ea; subst eb; subst ec
  obtain ⟨rows, hr, hrows⟩ := open_rows_of size ht he hce hcs h0 ha h3'
  refine ⟨a, b, c, v3, rows, ?_, wa, wb, wc, hr, hrows⟩
  obtain ⟨l⟩ := cs
  match l, hsz with
  | [w0, w1, w2, w3], _ =>
    simp only [List.getElem?_toArray, List.getElem?_cons_zero, List.getElem?_cons_succ, Option.some.injEq] at e0 e1 e2 e3
    rw [e0, e1, e2, e3]
end
end Go.Proofs.YtaffaliplmfagaaGreatDoor.Open

namespace Go.Proofs.YtaffaliplmfagaaGreatDoor.Open
open Go.RowKit Go.ChangeShapes Go.WideShapes Go.Deep Go.Proofs.YtaffaliplmfagaaGreatDoor.Own Go.Proofs.YtaffaliplmfagaaGreatDoor.Line

section
variable {H : Type} {enc : TypeId × Value → H} {P : Program} {w w' : World} {base : Nat} {spare : Nat → Bool} {held : Bool}

theorem open_found {t e i0 i1 i2 t3 s : TypeId} {v : Value} {fuel : Nat} {x : DataW H × List MemPlace} (ht : P.underlying t = some (.slice e)) (hc : P.cellsOf e = 4)
    (l0 : leaf P 8 e 0 = some i0) (l1 : leaf P 8 e 1 = some i1) (l2 : leaf P 8 e 2 = some i2) (l3 : leaf P 8 e 3 = some t3)
    (u0 : P.underlying i0 = some (.int .i64)) (u1 : P.underlying i1 = some (.int .i64)) (u2 : P.underlying i2 = some (.int .i64)) (u3 : P.underlying t3 = some (.slice s)) (hcs : P.cellsOf s = 1) (ha : allI64 P s = true)
    (h : DataW.trod enc P w base spare held fuel t [v] = some x) :
    ∃ fs : List FoundI, Rd w 4 v fs.length (foundV fs) ∧ ∀ f ∈ fs, Rd w 1 f.v f.n (vals f.zs) := by
  obtain ⟨len, cs, hr, hl⟩ := open_cells 4 ht hc (by omega) h
  have hlen := hr.len
  have each : ∀ k, k < len → ∃ f : FoundI, (cs[k * 4]? = some (.int .i64 f.k) ∧ cs[k * 4 + 1]? = some (.int .i64 f.i) ∧ cs[k * 4 + 2]? = some (.int .i64 f.j) ∧ cs[k * 4 + 3]? = some f.v) ∧ Rd w 1 f.v f.n (vals f.zs) := by
    intro k hk
    obtain ⟨m0, y0, v0, e0, h0⟩ := hl k hk 0 (by omega) _ l0
    obtain ⟨m1, y1, v1, e1, h1⟩ := hl k hk 1 (by omega) _ l1
    obtain ⟨m2, y2, v2, e2, h2⟩ := hl k hk 2 (by omega) _ l2
    obtain ⟨m3, y3, v3, e3, h3⟩ := hl k hk 3 (by omega) _ l3
    obtain ⟨a, ea, _, wa⟩ := DataW.trod_int u0 h0
    obtain ⟨b, eb, _, wb⟩ := DataW.trod_int u1 h1
    obtain ⟨c, ec, _, wc⟩ := DataW.trod_int u2 h2
    simp only [List.cons.injEq, and_true] at ea eb ec
    subst ea; subst eb; subst ec
    obtain ⟨n, zs, hz, _⟩ := open_ints_of 1 u3 hcs (by omega) ha h3
    exact ⟨⟨a, b, c, v3, n, zs⟩, ⟨e0, e1, e2, e3⟩, hz⟩
  have all : ∀ n, n ≤ len → ∃ fs : List FoundI, fs.length = n ∧ foundV fs = cs.take (n * 4) ∧ ∀ f ∈ fs, Rd w 1 f.v f.n (vals f.zs) := by
    intro n
    induction n with
    | zero => intro _; exact ⟨[], rfl, by simp [foundV], fun f hf => by simp at hf⟩
    | succ n ih =>
      intro hn
      obtain ⟨fs, h1, h2, h3⟩ := ih (by omega)
      obtain ⟨f, ⟨e0, e1, e2, e3⟩, hz⟩ := each n (by omega)
      refine ⟨fs ++ [f], by simp [h1], ?_, fun g hg => ?_⟩
      · rw [foundV_app, h2, show (n + 1) * 4 = n * 4 + 1 + 1 + 1 + 1 by omega, List.take_add_one, List.take_add_one, List.take_add_one, List.take_add_one, e0, e1, show n * 4 + 1 + 1 = n * 4 + 2 by omega, e2, show n * 4 + 2 + 1 = n * 4 + 3 by omega, e3]
        simp [foundV, foundC]
      · rcases List.mem_append.1 hg with h | h
        · exact h3 g h
        · rw [List.mem_singleton] at h
          subst h
          exact hz
  obtain ⟨fs, h1, h2, h3⟩ := all len (Nat.le_refl _)
  rw [List.take_of_length_le (by omega)] at h2
  refine ⟨fs, ?_, h3⟩
  rw [h1, h2]
  exact hr

theorem open_report {r : Reach} {b0 : Nat} {t i0 i1 t2 e j0 j1 j2 t3 s : TypeId} {ff : Array Field} {v : Value} {d : DataW H} {p : List MemPlace} (hs : P.underlying t = some (.struct ff)) (hc : P.cellsOf t = 3)
    (l0 : leaf P 8 t 0 = some i0) (l1 : leaf P 8 t 1 = some i1) (l2 : leaf P 8 t 2 = some t2)
    (u0 : P.underlying i0 = some (.int .i64)) (u1 : P.underlying i1 = some (.int .i64)) (ht : P.underlying t2 = some (.slice e)) (hce : P.cellsOf e = 4)
    (m0 : leaf P 8 e 0 = some j0) (m1 : leaf P 8 e 1 = some j1) (m2 : leaf P 8 e 2 = some j2) (m3 : leaf P 8 e 3 = some t3)
    (q0 : P.underlying j0 = some (.int .i64)) (q1 : P.underlying j1 = some (.int .i64)) (q2 : P.underlying j2 = some (.int .i64)) (q3 : P.underlying t3 = some (.slice s)) (hcs : P.cellsOf s = 1) (ha : allI64 P s = true)
    (hv : Value.okWide P w r b0 t v) (h : DataW.Trod enc P w base spare held t v d p) :
    ∃ (a b : Int) (u : Value) (fs : List FoundI), v = .agg #[.int .i64 a, .int .i64 b, u] ∧ Rd w 4 u fs.length (foundV fs) ∧ ∀ f ∈ fs, Rd w 1 f.v f.n (vals f.zs) := by
  obtain ⟨cs, rfl, hsz, hl⟩ := open_leaves hs hv h
  rw [hc] at hsz
  obtain ⟨n0, y0, v0, e0, h0'⟩ := hl 0 _ l0
  obtain ⟨n1, y1, v1, e1, h1'⟩ := hl 1 _ l1
  obtain ⟨n2, y2, v2, e2, h2'⟩ := hl 2 _ l2
  obtain ⟨a, ea, _, wa⟩ := DataW.trod_int u0 h0'
  obtain ⟨b, eb, _, wb⟩ := DataW.trod_int u1 h1'
  simp only [List.cons.injEq, and_true] at ea eb
  subst ea; subst eb
  obtain ⟨fs, hr, hrows⟩ := open_found ht hce m0 m1 m2 m3 q0 q1 q2 q3 hcs ha h2'
  refine ⟨a, b, v2, fs, ?_, hr, hrows⟩
  obtain ⟨l⟩ := cs
  match l, hsz with
  | [w0, w1, w2], _ =>
    simp only [List.getElem?_toArray, List.getElem?_cons_zero, List.getElem?_cons_succ, Option.some.injEq] at e0 e1 e2
    rw [e0, e1, e2]
end
end Go.Proofs.YtaffaliplmfagaaGreatDoor.Open
