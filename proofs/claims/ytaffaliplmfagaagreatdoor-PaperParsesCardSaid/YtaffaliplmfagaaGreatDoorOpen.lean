/-
  Arguments opened: what a reading of an argument tells of its cells, for slices of structs of integers however deep, and for such structs by value; all arguments read again behind a call that has turned nothing below.
-/
import Derived.Test.YtaffaliplmfagaaGreatDoorOwn
import Derived.ProofKit
import Derived.OpenShut
import Derived.Deep.Slices
import Derived.Deep.Fields
import Derived.ChangeArms
import Derived.ChangeMaps5
namespace Go.Proofs.YtaffaliplmfagaaGreatDoor.Open
open Go.RowKit Go.ChangeShapes Go.WideShapes Go.Deep Go.Proofs.YtaffaliplmfagaaGreatDoor.Own

/-- The type of the leaf that lies at cell j of a value of type t. -/
def leaf (P : Program) : Nat → TypeId → Nat → Option TypeId
  | 0, _, _ => none
  | n + 1, t, j => match P.underlying t with
    | some (.struct fs) => fs.toList.findSome? fun f => if f.offset ≤ j ∧ j < f.offset + P.cellsOf f.type ∧ f.offset + P.cellsOf f.type ≤ P.cellsOf t then leaf P n f.type (j - f.offset) else none
    | _ => if j = 0 ∧ P.cellsOf t = 1 then some t else none

section
variable {H : Type} {enc : TypeId × Value → H} {P : Program} {w w' : World} {base : Nat} {spare : Nat → Bool} {held : Bool}

theorem trod_leaf (n : Nat) : ∀ (t : TypeId) (j : Nat) (s : TypeId) (fuel : Nat) (cs : List Value) (x : DataW H × List MemPlace),
    leaf P n t j = some s → cs.length = P.cellsOf t → DataW.trod enc P w base spare held fuel t cs = some x →
    ∃ m y v, cs[j]? = some v ∧ DataW.trod enc P w base spare held m s [v] = some y := by
  induction n with
  | zero => intro t j s fuel cs x h; simp [leaf] at h
  | succ n ih =>
    intro t j s fuel cs x hl hc ht
    unfold leaf at hl
    split at hl
    · rename_i fs hu
      obtain ⟨ys, m, _, _, _, hlen, hf⟩ := DataW.trod_struct hu ht
      obtain ⟨f, hmem, hsome⟩ := List.exists_of_findSome?_eq_some hl
      split at hsome
      case isFalse => cases hsome
      case isTrue hcond =>
        obtain ⟨h1, h2, h3⟩ := hcond
        obtain ⟨i, hi⟩ := List.getElem?_of_mem hmem
        rw [Array.getElem?_toList] at hi
        have hfi := hf i f hi
        have hil : i < fs.size := (Array.getElem?_eq_some_iff.1 hi).1
        have hys : ys[i]? = some (ys[i]'(by omega)) := List.getElem?_eq_getElem (by omega)
        rw [hys] at hfi
        have hsub : ((cs.drop f.offset).take (P.cellsOf f.type)).length = P.cellsOf f.type := by
          rw [List.length_take, List.length_drop]; omega
        obtain ⟨m', y, v, hv, hy⟩ := ih f.type (j - f.offset) s m _ _ hsome hsub hfi
        refine ⟨m', y, v, ?_, hy⟩
        rw [List.getElem?_take, if_pos (by omega), List.getElem?_drop, show f.offset + (j - f.offset) = j by omega] at hv
        exact hv
    · split at hl
      case isFalse => cases hl
      case isTrue hcond =>
        obtain ⟨rfl, h1⟩ := hcond
        cases hl
        rw [h1] at hc
        obtain ⟨v, rfl⟩ := List.length_eq_one_iff.1 hc
        exact ⟨fuel, x, v, rfl, ht⟩

/-- Every cell of a value of type e is an integer of 64 bits with a sign. -/
def allI64 (P : Program) (e : TypeId) : Bool := (List.range (P.cellsOf e)).all fun j => match (leaf P 8 e j).bind P.underlying with
  | some (.int .i64) => true
  | _ => false

theorem i64_at {e : TypeId} (h : allI64 P e = true) {fuel : Nat} {cs : List Value} {x : DataW H × List MemPlace} (hc : cs.length = P.cellsOf e) (ht : DataW.trod enc P w base spare held fuel e cs = some x) (j : Nat) (hj : j < P.cellsOf e) :
    ∃ n, cs[j]? = some (.int .i64 n) ∧ (Lit.int .i64 n).wf = true := by
  have h1 := List.all_eq_true.1 h j (List.mem_range.2 hj)
  cases hl : leaf P 8 e j with
  | none => simp [hl] at h1
  | some s =>
    obtain ⟨m, y, v, hv, hy⟩ := trod_leaf 8 e j s fuel cs x hl hc ht
    simp only [hl, Option.bind_some] at h1
    split at h1
    case h_2 => cases h1
    case h_1 hu =>
      obtain ⟨n, hn, _, hw⟩ := DataW.trod_int hu hy
      simp only [List.cons.injEq, and_true] at hn
      exact ⟨n, by rw [hv, hn], hw⟩

theorem ints_of (cs : List Value) (h : ∀ j, j < cs.length → ∃ n, cs[j]? = some (.int .i64 n) ∧ (Lit.int .i64 n).wf = true) : ∃ zs : List Int, cs = vals zs ∧ ∀ z ∈ zs, (Lit.int .i64 z).wf = true := by
  induction cs with
  | nil => exact ⟨[], rfl, by simp⟩
  | cons c cs ih =>
    obtain ⟨n, hn, hw⟩ := h 0 (by simp)
    simp only [List.getElem?_cons_zero, Option.some.injEq] at hn
    obtain ⟨zs, rfl, hz⟩ := ih (fun j hj => by simpa using h (j + 1) (by simp; omega))
    exact ⟨n :: zs, by rw [hn]; rfl, by simpa using ⟨hw, hz⟩⟩

/-- A struct of such integers, by value. -/
theorem open_agg_i64 {r : Reach} {b0 : Nat} {t : TypeId} {fs : Array Field} {v : Value} {d : DataW H} {p : List MemPlace} (hs : P.underlying t = some (.struct fs)) (ha : allI64 P t = true)
    (hv : Value.okWide P w r b0 t v) (h : DataW.Trod enc P w base spare held t v d p) :
    ∃ zs : List Int, v = .agg (vals zs).toArray ∧ zs.length = P.cellsOf t ∧ ∀ z ∈ zs, (Lit.int .i64 z).wf = true := by
  obtain ⟨cs, rfl, hsz⟩ := okWide_struct hs hv
  obtain ⟨fuel, hf⟩ := h
  have hf' : DataW.trod enc P w base spare held fuel t cs.toList = some (d, p) := by simpa [Value.cells] using hf
  have hc : cs.toList.length = P.cellsOf t := by simpa using hsz
  obtain ⟨zs, hz, hw⟩ := ints_of cs.toList (fun j hj => i64_at ha hc hf' j (by omega))
  refine ⟨zs, ?_, ?_, hw⟩
  · rw [← hz]
  · have := congrArg List.length hz
    rw [vals_len] at this
    omega

/-- A slice of structs of such integers (or of such integers). -/
theorem open_i64s {r : Reach} {b0 : Nat} {t e : TypeId} (size : Nat) {v : Value} {d : DataW H} {p : List MemPlace} (ht : P.underlying t = some (.slice e)) (hc : P.cellsOf e = size) (h0 : 0 < size) (ha : allI64 P e = true)
    (hv : Value.okWide P w r b0 t v) (h : DataW.Trod enc P w base spare held t v d p) :
    ∃ (len : Nat) (zs : List Int), Rd w size v len (vals zs) ∧ (∀ z ∈ zs, (Lit.int .i64 z).wf = true) := by
  obtain ⟨ao, len, cap, rfl⟩ := okWide_slice ht hv
  obtain ⟨fuel, hf⟩ := h
  rcases open_slice ht (by simpa [Value.cells] using hf) with ⟨h1, _⟩ | ⟨a, len', cap', m, n, D, Pl, h1, hb, hle, hmax, hm, _, hx⟩
  · simp only [List.cons.injEq, Value.slice.injEq, and_true] at h1
    obtain ⟨rfl, rfl, rfl⟩ := h1
    exact ⟨0, [], Rd.nil w size, by simp⟩
  · simp only [List.cons.injEq, Value.slice.injEq, and_true] at h1
    obtain ⟨rfl, rfl, rfl⟩ := h1
    have hlm : len ≤ m := by rw [hm]; split <;> omega
    have each : ∀ k, k < len * size → ∃ z, w.cell? (a.add k) = some (.int .i64 z) ∧ (Lit.int .i64 z).wf = true := by
      intro k hk
      have hi : k / size < len := by rw [Nat.div_lt_iff_lt_mul h0]; exact hk
      obtain ⟨cs, hcs, htr⟩ := hx (k / size) (by omega)
      rw [hc] at hcs
      obtain ⟨_, hcl, hat⟩ := World.cells?_some hcs
      have hj : k % size < size := Nat.mod_lt _ h0
      obtain ⟨z, hz, hw⟩ := i64_at ha (by rw [hcl, hc]) htr (k % size) (by rw [hc]; exact hj)
      refine ⟨z, ?_, hw⟩
      have := hat (k % size) hj
      rw [Go.Deep.add_add, show k / size * size + k % size = k by rw [Nat.mul_comm]; exact Nat.div_add_mod k size] at this
      rw [this, hz]
    obtain ⟨zs, hz, hw⟩ := ints_of ((List.range (len * size)).map fun k => ((w.cell? (a.add k)).getD undef)) (fun j hj => by
      simp only [List.length_map, List.length_range] at hj
      obtain ⟨z, h1, h2⟩ := each j hj
      exact ⟨z, by simp [hj, h1], h2⟩)
    refine ⟨len, zs, ⟨by rw [← hz]; simp, some a, cap, rfl, hle, hmax, (fun hh => by cases hh), fun hl => ?_⟩, hw⟩
    have hp : 0 < len * size := Nat.mul_pos hl h0
    obtain ⟨z0, hz0, _⟩ := each 0 hp
    obtain ⟨b, off, spot⟩ := a
    have hspot : spot = none := by simpa [Addr.add] using World.cell?_spot hz0
    subst hspot
    refine ⟨b, off, rfl, ?_, fun j u hu => ?_⟩
    · have : w.cell? ⟨b, off, none⟩ = some (.int .i64 z0) := by simpa [Addr.add] using hz0
      rcases Nat.lt_or_ge b w.heap.size with hlt | hge
      · exact hlt
      · simp [World.cell?, Array.getElem?_eq_none hge] at this
    · rw [← hz] at hu
      have hj : j < len * size := by
        have := (List.getElem?_eq_some_iff.1 hu).1
        simpa using this
      obtain ⟨z, h1, _⟩ := each j hj
      rw [Go.WideShapes.add_plain] at h1
      simp [hj, Go.WideShapes.add_plain, h1] at hu
      rw [h1, ← hu]

/-- A slice of integers of whatever kind. -/
theorem open_kinds {r : Reach} {b0 : Nat} {t e : TypeId} {k : IntKind} {v : Value} {d : DataW H} {p : List MemPlace} (ht : P.underlying t = some (.slice e)) (he : P.underlying e = some (.int k)) (hc : P.cellsOf e = 1)
    (hv : Value.okWide P w r b0 t v) (h : DataW.Trod enc P w base spare held t v d p) :
    ∃ (len : Nat) (zs : List Int), Rd w 1 v len (zs.map (Value.int k)) ∧ (∀ z ∈ zs, (Lit.int k z).wf = true) := by
  obtain ⟨ao, len, cap, rfl⟩ := okWide_slice ht hv
  obtain ⟨fuel, hf⟩ := h
  rcases open_slice ht (by simpa [Value.cells] using hf) with ⟨h1, _⟩ | ⟨a, len', cap', m, n, D, Pl, h1, hb, hle, hmax, hm, _, hx⟩
  · simp only [List.cons.injEq, Value.slice.injEq, and_true] at h1
    obtain ⟨rfl, rfl, rfl⟩ := h1
    exact ⟨0, [], Rd.nil w 1, by simp⟩
  · simp only [List.cons.injEq, Value.slice.injEq, and_true] at h1
    obtain ⟨rfl, rfl, rfl⟩ := h1
    have hlm : len ≤ m := by rw [hm]; split <;> omega
    have each : ∀ j, j < len → ∃ z, w.cell? (a.add j) = some (.int k z) ∧ (Lit.int k z).wf = true := by
      intro j hj
      obtain ⟨cs, hcs, htr⟩ := hx j (by omega)
      rw [hc] at hcs
      obtain ⟨_, hcl, hat⟩ := World.cells?_some hcs
      obtain ⟨c, rfl⟩ := List.length_eq_one_iff.1 hcl
      obtain ⟨z, hz, _, hw⟩ := DataW.trod_int he htr
      simp only [List.cons.injEq, and_true] at hz
      have := hat 0 (by omega)
      rw [Go.Deep.add_add, Nat.mul_one, Nat.add_zero] at this
      exact ⟨z, by rw [this, hz]; rfl, hw⟩
    obtain ⟨zs, hz, hw⟩ : ∃ zs : List Int, (List.range len).map (fun j => (w.cell? (a.add j)).getD undef) = zs.map (Value.int k) ∧ ∀ z ∈ zs, (Lit.int k z).wf = true := by
      have gen : ∀ l : List Nat, (∀ j ∈ l, j < len) → ∃ zs : List Int, l.map (fun j => (w.cell? (a.add j)).getD undef) = zs.map (Value.int k) ∧ ∀ z ∈ zs, (Lit.int k z).wf = true := by
        intro l
        induction l with
        | nil => intro _; exact ⟨[], rfl, by simp⟩
        | cons j l ih =>
          intro hl
          obtain ⟨zs, h1, h2⟩ := ih (fun i hi => hl i (by simp [hi]))
          obtain ⟨z, h3, h4⟩ := each j (hl j (by simp))
          exact ⟨z :: zs, by simp [h1, h3], by simpa using ⟨h4, h2⟩⟩
      exact gen _ (fun j hj => List.mem_range.1 hj)
    refine ⟨len, zs, ⟨by rw [← hz]; simp, some a, cap, rfl, hle, hmax, (fun hh => by cases hh), fun hl => ?_⟩, hw⟩
    obtain ⟨z0, hz0, _⟩ := each 0 hl
    obtain ⟨b, off, spot⟩ := a
    have hspot : spot = none := by simpa [Addr.add] using World.cell?_spot hz0
    subst hspot
    refine ⟨b, off, rfl, ?_, fun j u hu => ?_⟩
    · have : w.cell? ⟨b, off, none⟩ = some (.int k z0) := by simpa [Addr.add] using hz0
      rcases Nat.lt_or_ge b w.heap.size with hlt | hge
      · exact hlt
      · simp [World.cell?, Array.getElem?_eq_none hge] at this
    · rw [← hz] at hu
      have hj : j < len := by
        have := (List.getElem?_eq_some_iff.1 hu).1
        simpa using this
      obtain ⟨z, h1, _⟩ := each j hj
      rw [Go.WideShapes.add_plain] at h1
      simp [hj, Go.WideShapes.add_plain, h1] at hu
      rw [h1, ← hu]

theorem wf_bd {a : Int} (h : (Lit.int .i64 a).wf = true) : -9223372036854775808 ≤ a ∧ a ≤ 9223372036854775807 := by
  simp [Lit.wf, IntKind.min, IntKind.max, IntKind.signed, IntKind.bits] at h
  omega
theorem wf_u8_bd {a : Int} (h : (Lit.int .u8 a).wf = true) : 0 ≤ a ∧ a < 256 := by
  simp [Lit.wf, IntKind.min, IntKind.max, IntKind.signed, IntKind.bits] at h
  omega

/-- All arguments read as they did, behind a call that has turned nothing below. -/
theorem below_trodAll (hl : laidOutB P = true) {W W' : World} (hb : Below W.heap.size W W') : ∀ (ts : List TypeId) (vs : List Value) (ds : List (DataW H)) (ps : List MemPlace),
    (∀ t ∈ ts, P.readableRec t = true ∧ t < P.types.size) → DataW.TrodAll enc P W 0 (fun _ => true) true ts vs ds ps → (∀ x ∈ ps, x.block < W.heap.size) →
    DataW.TrodAll enc P W' 0 (fun b => decide (b < W.heap.size)) true ts vs ds ps
  | [], vs, ds, ps, _, h, _ => by
    obtain ⟨rfl, rfl, rfl⟩ := trodAll_nil h
    exact trodAll_mk0
  | t :: ts, vs, ds, ps, hr, h, hlt => by
    obtain ⟨v, vs', d, ds', p, q, rfl, rfl, rfl, h1, h2⟩ := trodAll_cons h
    exact trodAll_cons_mk (Below.trod hl (hr t (by simp)).1 (hr t (by simp)).2 h1 hb (fun x hx => hlt x (by simp [hx])))
      (below_trodAll hl hb ts vs' ds' q (fun t' ht' => hr t' (by simp [ht'])) h2 (fun x hx => hlt x (by simp [hx])))
theorem below_args (hl : laidOutB P = true) {W W' : World} (hb : Below W.heap.size W W') {ts : List TypeId} {vs : List Value} {ds : List (DataW H)} {ps : List MemPlace}
    (hr : (ts.all fun t => P.readableRec t && decide (t < P.types.size)) = true) (h : DataW.TrodAll enc P W 0 (fun _ => true) true ts vs ds ps) (hlt : ∀ x ∈ ps, x.block < W.heap.size) :
    DataW.TrodAll enc P W' 0 (fun b => decide (b < W.heap.size)) true ts vs ds ps :=
  below_trodAll hl hb ts vs ds ps (fun t ht => by have := List.all_eq_true.1 hr t ht; simpa using this) h hlt
end
end Go.Proofs.YtaffaliplmfagaaGreatDoor.Open
