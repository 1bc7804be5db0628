/-
  What a call may have turned of old memory, block by block ('Kept'); a slice that lies in a block of the call's own, wherever in the block it begins ('Seg'); what one may read through a slice ('Rd'); append and reslice over these.
-/
import Derived.ArgAppend
import Derived.Below
import Derived.WalkKit
import Derived.Conc.LoneCalls
import Derived.Deep.Quiet
namespace Go.Proofs.YtaffaliplmfagaaGreatDoor.Own
open Go.RowKit

def vals (xs : List Int) : List Value := xs.map (Value.int .i64)
theorem vals_len (xs : List Int) : (vals xs).length = xs.length := by simp [vals]
theorem vals_app (xs ys : List Int) : vals (xs ++ ys) = vals xs ++ vals ys := by simp [vals]
theorem vals_cons (x : Int) (xs : List Int) : vals (x :: xs) = .int .i64 x :: vals xs := rfl

/-- From w to w' no old block has turned but those of S. -/
structure Kept (S : Nat → Prop) (w w' : World) : Prop where
  os : w'.os = w.os
  tape : w'.tape = w.tape
  output : w'.output = w.output
  size : w.heap.size ≤ w'.heap.size
  block : ∀ k, k < w.heap.size → ¬ S k → w'.heap[k]? = w.heap[k]?

/-- The blocks from B on. -/
def From (B k : Nat) : Prop := B ≤ k
def No (_ : Nat) : Prop := False
def Only (c k : Nat) : Prop := k = c
def Two (c : Nat) (v : Value) (k : Nat) : Prop := k = c ∨ v.ownBlock = some k

section
variable {S T : Nat → Prop} {w w' w'' : World}
theorem Kept.refl (S : Nat → Prop) (w : World) : Kept S w w := ⟨rfl, rfl, rfl, Nat.le_refl _, fun _ _ _ => rfl⟩
theorem Kept.trans (h : Kept S w w') (h' : Kept T w' w'') (hT : ∀ k, k < w.heap.size → T k → S k) : Kept S w w'' :=
  ⟨h'.os.trans h.os, h'.tape.trans h.tape, h'.output.trans h.output, Nat.le_trans h.size h'.size,
    fun k hk hs => (h'.block k (Nat.lt_of_lt_of_le hk h.size) (fun ht => hs (hT k hk ht))).trans (h.block k hk hs)⟩
theorem Kept.mono (h : Kept T w w') (hT : ∀ k, k < w.heap.size → T k → S k) : Kept S w w' :=
  ⟨h.os, h.tape, h.output, h.size, fun k hk hs => h.block k hk (fun ht => hs (hT k hk ht))⟩
theorem Kept.alloc (h : Kept S w w') (o : Obj) : Kept S w (w'.alloc o) :=
  h.trans (T := No) ⟨rfl, rfl, rfl, by simp, fun k hk _ => Below.heap_alloc _ _ _ hk⟩ (fun _ _ f => f.elim)
theorem Kept.drewN (h : Kept S w w') (n : Nat) : Kept S w (w'.drewN n) := ⟨h.os, h.tape, h.output, h.size, h.block⟩
theorem Kept.drew (h : Kept S w w') : Kept S w w'.drew := ⟨h.os, h.tape, h.output, h.size, h.block⟩
theorem Kept.grown (h : Kept S w w') {row : Option Nat} (hg : w'.grownBy w'' row) (hr : ∀ k, k < w.heap.size → row = some k → S k) : Kept S w w'' :=
  h.trans (T := fun k => row = some k) ⟨hg.os, hg.tape, hg.output, hg.size, fun k hk hn => hg.block k hk (fun e => hn e.symm)⟩ hr
theorem Kept.setChan (h : Kept S w w') {c : Nat} (hc : c < w.heap.size → S c) (cap : Nat) (buf : Array Value) (cl : Bool) (s r : Nat) (tm : Bool) : Kept S w (w'.setChan c cap buf cl s r tm) :=
  h.trans (T := fun k => k = c) ⟨rfl, rfl, rfl, by simp [World.setChan], fun k _ hn => by simp only [World.setChan]; rw [Array.getElem?_setIfInBounds_ne (fun e => hn e.symm)]⟩ (fun k hk e => by subst e; exact hc hk)
theorem Kept.setCell (h : Kept S w w') {p : Addr} (hp : p.block < w.heap.size → S p.block) (u : Value) : Kept S w (w'.setCell p u) :=
  h.trans (T := fun k => k = p.block) ⟨rfl, rfl, rfl, by simp [World.setCell], fun k _ hn => Below.heap_setCell _ _ _ _ hn⟩ (fun k hk e => by subst e; exact hp hk)
theorem Kept.below (h : Kept S w w') {B : Nat} (hB : B ≤ w.heap.size) (hS : ∀ k, k < B → ¬ S k) : Below B w w' :=
  ⟨h.os, h.tape, h.output, h.size, fun k hk => h.block k (by omega) (hS k hk)⟩
theorem Kept.of_below {B : Nat} (h : Below B w w') (hS : ∀ k, B ≤ k → k < w.heap.size → S k) : Kept S w w' :=
  ⟨h.os, h.tape, h.output, h.size, fun k hk hn => h.block k (by rcases Nat.lt_or_ge k B with h' | h'; exact h'; exact (hn (hS k h' hk)).elim)⟩
theorem Kept.cell (h : Kept S w w') {p : Addr} (hp : p.block < w.heap.size) (hn : ¬ S p.block) : w'.cell? p = w.cell? p := World.cell?_of_block (w := w) (h.block p.block hp hn)
theorem Kept.frozen (h : Kept S w w') {p : Addr} (hp : p.block < w.heap.size) (hn : ¬ S p.block) : w'.frozen? p = w.frozen? p := World.frozen?_of_block (w := w) (h.block p.block hp hn)
end

/-- Block b holds just the cells cs. -/
def Box (w : World) (b : Nat) (cs : Array Value) (t : TypeId) : Prop := w.heap[b]? = some (.cells cs t (0, 0))
theorem Box.new (w : World) (cs : Array Value) (t : TypeId) : Box (w.alloc (.cells cs t)) w.heap.size cs t := heap_alloc_new w _
theorem Box.lt {w : World} {b : Nat} {cs : Array Value} {t : TypeId} (h : Box w b cs t) : b < w.heap.size := (Array.getElem?_eq_some_iff.1 h).1
theorem Box.kept {S : Nat → Prop} {w w' : World} {b : Nat} {cs : Array Value} {t : TypeId} (h : Box w b cs t) (hk : Kept S w w') (hS : ¬ S b) : Box w' b cs t := (hk.block b h.lt hS).trans h
theorem Box.alloc {w : World} {b : Nat} {cs : Array Value} {t : TypeId} (h : Box w b cs t) (o : Obj) : Box (w.alloc o) b cs t := by
  unfold Box; rw [Below.heap_alloc _ _ _ h.lt]; exact h
theorem Box.cell {w : World} {b : Nat} {cs : Array Value} {t : TypeId} (h : Box w b cs t) (i : Nat) : w.cell? ⟨b, i, none⟩ = cs[i]? := by
  unfold Box at h; simp [World.cell?, h]
theorem Box.frozen {w : World} {b : Nat} {cs : Array Value} {t : TypeId} (h : Box w b cs t) (i : Nat) : w.frozen? ⟨b, i, none⟩ = false := by
  unfold Box at h; simp [World.frozen?, h]

/-! ### A slice in a block of the call's own -/
/-- Block g holds the cells cs, none of which is frozen (a mark may lie behind them). -/
def Blk (w : World) (g : Nat) (cs : Array Value) (t : TypeId) : Prop := ∃ fr : Nat × Nat, w.heap[g]? = some (.cells cs t fr) ∧ ∀ j, j < cs.size → ¬ (fr.1 ≤ j ∧ j < fr.2)
theorem Blk.plain {w : World} {g : Nat} {cs : Array Value} {t : TypeId} (h : w.heap[g]? = some (.cells cs t (0, 0))) : Blk w g cs t := ⟨_, h, fun _ _ h => by omega⟩
theorem Box.blk {w : World} {g : Nat} {cs : Array Value} {t : TypeId} (h : Box w g cs t) : Blk w g cs t := Blk.plain h
theorem Blk.lt {w : World} {g : Nat} {cs : Array Value} {t : TypeId} (h : Blk w g cs t) : g < w.heap.size := by
  obtain ⟨fr, h, _⟩ := h
  exact (Array.getElem?_eq_some_iff.1 h).1
theorem Blk.of_block {w w' : World} {g : Nat} {cs : Array Value} {t : TypeId} (h : Blk w g cs t) (hb : w'.heap[g]? = w.heap[g]?) : Blk w' g cs t := by
  obtain ⟨fr, h, h2⟩ := h
  exact ⟨fr, by rw [hb]; exact h, h2⟩
theorem Blk.kept {S : Nat → Prop} {w w' : World} {g : Nat} {cs : Array Value} {t : TypeId} (h : Blk w g cs t) (hk : Kept S w w') (hS : ¬ S g) : Blk w' g cs t := h.of_block (hk.block g h.lt hS)
theorem Blk.cell {w : World} {g : Nat} {cs : Array Value} {t : TypeId} (h : Blk w g cs t) (i : Nat) : w.cell? ⟨g, i, none⟩ = cs[i]? := by
  obtain ⟨fr, h, _⟩ := h
  simp [World.cell?, h]
theorem Blk.frozen {w : World} {g : Nat} {cs : Array Value} {t : TypeId} (h : Blk w g cs t) (i : Nat) (hi : i < cs.size) : w.frozen? ⟨g, i, none⟩ = false := by
  obtain ⟨fr, h, h2⟩ := h
  have h3 := h2 i hi
  simp only [World.frozen?, h]
  rw [Bool.and_eq_false_iff]
  simp only [decide_eq_false_iff_not]
  omega
theorem Blk.set {w : World} {g : Nat} {cs : Array Value} {t : TypeId} (h : Blk w g cs t) (i : Nat) (u : Value) : Blk (w.setCell ⟨g, i, none⟩ u) g (cs.setIfInBounds i u) t := by
  obtain ⟨fr, h, h2⟩ := h
  obtain ⟨hlt, hk⟩ := Array.getElem?_eq_some_iff.1 h
  refine ⟨fr, ?_, fun j hj => h2 j (by simpa using hj)⟩
  show (w.heap.modify g _)[g]? = _
  rw [Array.getElem?_eq_getElem (by rw [Array.size_modify]; exact hlt), Array.getElem_modify_self, hk]
  rfl
def Seg (w : World) (B : Nat) (e : TypeId) (size : Nat) (v : Value) (n : Nat) (xs : List Value) : Prop :=
  xs.length = n * size ∧
  ((v = .slice none 0 0 ∧ n = 0) ∨
   ∃ g o cap cur, v = .slice (some ⟨g, o, none⟩) n cap ∧ B ≤ g ∧ Blk w g cur e ∧ n ≤ cap ∧ cap ≤ maxLen ∧ o + cap * size ≤ cur.size ∧ ∀ j, j < n * size → cur[o + j]? = xs[j]?)

/-- What may be read through a slice. -/
def Rd (w : World) (size : Nat) (v : Value) (n : Nat) (xs : List Value) : Prop :=
  xs.length = n * size ∧ ∃ ao cap, v = .slice ao n cap ∧ n ≤ cap ∧ cap ≤ maxLen ∧ (ao = none → n = 0 ∧ cap = 0) ∧ (0 < n → ∃ g o, ao = some ⟨g, o, none⟩ ∧ g < w.heap.size ∧ ∀ j u, xs[j]? = some u → w.cell? ⟨g, o + j, none⟩ = some u)

section
variable {w w' : World} {B n size : Nat} {e : TypeId} {v : Value} {xs : List Value}
theorem Seg.nil (w : World) (B : Nat) (e : TypeId) (size : Nat) : Seg w B e size (.slice none 0 0) 0 [] := ⟨by simp, .inl ⟨rfl, rfl⟩⟩
theorem Seg.of_block (h : Seg w B e size v n xs) (hb : ∀ g, v.ownBlock = some g → w'.heap[g]? = w.heap[g]?) : Seg w' B e size v n xs := by
  refine ⟨h.1, ?_⟩
  rcases h.2 with hn | ⟨g, o, cap, cur, rfl, hB, hg, rest⟩
  · exact .inl hn
  · exact .inr ⟨g, o, cap, cur, rfl, hB, hg.of_block (hb g rfl), rest⟩
theorem Seg.lt (h : Seg w B e size v n xs) : ∀ g, v.ownBlock = some g → B ≤ g ∧ g < w.heap.size := by
  intro k hk
  rcases h.2 with ⟨rfl, _⟩ | ⟨g, o, cap, cur, rfl, hB, hg, _⟩
  · simp [Value.ownBlock] at hk
  · simp [Value.ownBlock] at hk
    subst hk
    exact ⟨hB, hg.lt⟩
theorem Seg.kept {S : Nat → Prop} (h : Seg w B e size v n xs) (hk : Kept S w w') (hS : ∀ g, v.ownBlock = some g → ¬ S g) : Seg w' B e size v n xs :=
  h.of_block fun g hg => hk.block g (h.lt g hg).2 (hS g hg)
theorem Seg.mono {B' : Nat} (h : Seg w B e size v n xs) (hB : B' ≤ B) : Seg w B' e size v n xs :=
  ⟨h.1, h.2.imp id fun ⟨g, o, cap, cur, h1, h2, h3⟩ => ⟨g, o, cap, cur, h1, Nat.le_trans hB h2, h3⟩⟩
theorem Seg.of_owns (h : w.ownsRow B e size v n xs) : Seg w B e size v n xs := by
  refine ⟨h.1, ?_⟩
  rcases h.2 with hn | ⟨g, cap, cur, rfl, hB, hg, hle, hmax, hsz, htake⟩
  · exact .inl hn
  · refine .inr ⟨g, 0, cap, cur, rfl, hB, Blk.plain hg, hle, hmax, by omega, fun j hj => ?_⟩
    rw [← htake, List.getElem?_take, if_pos hj]
    simp
theorem Seg.rd (h : Seg w B e size v n xs) : Rd w size v n xs := by
  refine ⟨h.1, ?_⟩
  rcases h.2 with ⟨rfl, rfl⟩ | ⟨g, o, cap, cur, rfl, hB, hg, hle, hmax, hsz, hx⟩
  · exact ⟨none, 0, rfl, by omega, by simp [maxLen], fun _ => ⟨rfl, rfl⟩, fun h0 => by omega⟩
  · refine ⟨_, cap, rfl, hle, hmax, (fun hh => by cases hh), fun _ => ⟨g, o, rfl, hg.lt, fun j u hu => ?_⟩⟩
    have hj : j < n * size := by rw [← h.1]; exact (List.getElem?_eq_some_iff.1 hu).1
    rw [hg.cell, hx j hj, hu]
theorem Rd.of_block {w w' : World} (h : Rd w size v n xs) (hs : w.heap.size ≤ w'.heap.size) (hb : ∀ g, v.ownBlock = some g → g < w.heap.size → w'.heap[g]? = w.heap[g]?) : Rd w' size v n xs := by
  obtain ⟨h1, ao, cap, rfl, h2, h3, h4, h5⟩ := h
  refine ⟨h1, ao, cap, rfl, h2, h3, h4, fun h0 => ?_⟩
  obtain ⟨g, o, rfl, hg, hc⟩ := h5 h0
  refine ⟨g, o, rfl, by omega, fun j u hu => ?_⟩
  rw [World.cell?_of_block (w := w) (hb g rfl hg)]
  exact hc j u hu
theorem Rd.kept {S : Nat → Prop} (h : Rd w size v n xs) (hk : Kept S w w') (hS : ∀ g, v.ownBlock = some g → ¬ S g) : Rd w' size v n xs :=
  h.of_block hk.size fun g hg hlt => hk.block g hlt (hS g hg)
theorem Rd.nil (w : World) (size : Nat) : Rd w size (.slice none 0 0) 0 [] := ⟨by simp, none, 0, rfl, by omega, by simp [maxLen], fun _ => ⟨rfl, rfl⟩, fun h0 => by omega⟩
theorem Rd.len (h : Rd w size v n xs) : xs.length = n * size := h.1
theorem Seg.len (h : Seg w B e size v n xs) : xs.length = n * size := h.1
end

theorem Seg.set {w : World} {B : Nat} {e : TypeId} {size : Nat} {g o n cap : Nat} {xs : List Value} (h : Seg w B e size (.slice (some ⟨g, o, none⟩) n cap) n xs) (k : Nat) (u : Value) :
    Seg (w.setCell ⟨g, o + k, none⟩ u) B e size (.slice (some ⟨g, o, none⟩) n cap) n (xs.set k u) := by
  refine ⟨by rw [List.length_set]; exact h.1, ?_⟩
  rcases h.2 with ⟨h1, _⟩ | ⟨g', o', cap', cur, h1, hB, hg, hn, hm, hs, hx⟩
  · cases h1
  · cases h1
    have hle : n * size ≤ cap * size := Nat.mul_le_mul_right _ hn
    refine .inr ⟨g, o, cap, _, rfl, hB, hg.set (o + k) u, hn, hm, by simpa using hs, fun j hj => ?_⟩
    rw [Array.getElem?_setIfInBounds, List.getElem?_set]
    by_cases hk : k = j
    · subst hk
      have := h.1
      rw [if_pos rfl, if_pos (by omega), if_pos rfl, if_pos (by omega)]
    · rw [if_neg (by omega), if_neg hk]
      exact hx j hj
theorem Seg.drew {w : World} {B : Nat} {e : TypeId} {size n : Nat} {v : Value} {xs : List Value} (h : Seg w B e size v n xs) : Seg w.drew B e size v n xs := h
theorem Seg.drewN {w : World} {B : Nat} {e : TypeId} {size n : Nat} {v : Value} {xs : List Value} (h : Seg w B e size v n xs) (q : Nat) : Seg (w.drewN q) B e size v n xs := h

/-! ### cells written one behind the other -/
def putAll (cur : Array Value) : Nat → List Value → Array Value
  | _, [] => cur
  | o, v :: r => putAll (cur.setIfInBounds o v) (o + 1) r
theorem size_putAll : ∀ (vs : List Value) (cur : Array Value) (o : Nat), (putAll cur o vs).size = cur.size
  | [], _, _ => rfl
  | v :: r, cur, o => by rw [putAll, size_putAll r]; simp
theorem putAll_out : ∀ (vs : List Value) (cur : Array Value) (o j : Nat), (j < o ∨ o + vs.length ≤ j) → (putAll cur o vs)[j]? = cur[j]?
  | [], _, _, _, _ => rfl
  | v :: r, cur, o, j, h => by
    simp only [List.length_cons] at h
    rw [putAll, putAll_out r _ _ _ (by omega), Array.getElem?_setIfInBounds_ne (by omega)]
theorem putAll_in : ∀ (vs : List Value) (cur : Array Value) (o j : Nat), o + vs.length ≤ cur.size → j < vs.length → (putAll cur o vs)[o + j]? = vs[j]?
  | [], _, _, _, _, h => by simp at h
  | v :: r, cur, o, j, hs, h => by
    simp only [List.length_cons] at h hs
    rw [putAll]
    cases j with
    | zero =>
      rw [putAll_out r _ _ _ (by omega)]
      simp only [Nat.add_zero, List.getElem?_cons_zero]
      rw [Array.getElem?_setIfInBounds_self_of_lt (by omega)]
    | succ j =>
      have := putAll_in r (cur.setIfInBounds o v) (o + 1) j (by simp; omega) (by omega)
      rw [show o + (j + 1) = o + 1 + j by omega, this]
      simp
theorem heap_setCells : ∀ (vs : List Value) (o : Nat) (w : World) (g : Nat) (cur : Array Value) (e : TypeId) (f : Nat × Nat), w.heap[g]? = some (.cells cur e f) → (w.setCells g o vs).heap[g]? = some (.cells (putAll cur o vs) e f)
  | [], _, _, _, _, _, _, h => h
  | v :: r, o, w, g, cur, e, f, h => by
    rw [World.setCells, putAll]
    refine heap_setCells r (o + 1) _ g _ e f ?_
    simp only [World.setCell, Array.getElem?_modify, if_true, h, Option.map_some]
    simp
theorem blk_setCells (vs : List Value) (o : Nat) (w : World) (g : Nat) (cur : Array Value) (e : TypeId) (h : Blk w g cur e) : Blk (w.setCells g o vs) g (putAll cur o vs) e := by
  obtain ⟨fr, h, h2⟩ := h
  exact ⟨fr, heap_setCells _ _ _ _ _ _ _ h, fun j hj => h2 j (by rwa [size_putAll] at hj)⟩
theorem heap_setCells_other : ∀ (vs : List Value) (o : Nat) (w : World) (g k : Nat), k ≠ g → (w.setCells g o vs).heap[k]? = w.heap[k]?
  | [], _, _, _, _, _ => rfl
  | v :: r, o, w, g, k, h => by
    rw [World.setCells, heap_setCells_other r _ _ _ _ h]
    exact Below.heap_setCell _ _ _ _ h
theorem grown_setCells (vs : List Value) : ∀ (o : Nat) (w : World) (g : Nat), w.grownBy (w.setCells g o vs) (some g) := by
  induction vs with
  | nil => exact fun o w g => ⟨rfl, rfl, rfl, Nat.le_refl _, fun _ _ _ => rfl⟩
  | cons v r ih =>
    intro o w g
    have h := ih (o + 1) (w.setCell ⟨g, o, none⟩ v) g
    refine ⟨h.os, h.tape, h.output, Nat.le_trans (by simp [World.setCell]) h.size, fun k hk hn => ?_⟩
    have := h.block k (by simpa [World.setCell] using hk) hn
    rw [World.setCells, this]
    exact Below.heap_setCell _ _ _ _ (fun e => hn (by rw [e]))

theorem cell_one (w : World) (x : Value) (t : TypeId) : ∀ j u, [x][j]? = some u → (w.alloc (.cells #[x] t)).cell? ((⟨w.heap.size, 0, none⟩ : Addr).add j) = some u := by
  intro j u hu
  rw [Addr.add_lit]
  cases j with
  | zero => simpa using hu
  | succ j => simp at hu
theorem cells_new (w : World) (cs : Array Value) (t : TypeId) : ∀ (j : Nat) (u : Value), cs.toList[j]? = some u → (w.alloc (.cells cs t)).cell? ((⟨w.heap.size, 0, none⟩ : Addr).add j) = some u := by
  intro j u hu
  rw [Addr.add_lit, Nat.zero_add, World.cell?_alloc_new]
  simpa using hu
theorem one_ints (zs : List Int) : ∀ u ∈ vals zs, u.oneCell' = true := by
  intro u hu
  simp only [vals, List.mem_map] at hu
  obtain ⟨z, _, rfl⟩ := hu
  rfl
theorem one_int (k : IntKind) (x : Int) : ∀ u ∈ [Value.int k x], u.oneCell' = true := by
  intro u hu
  simp only [List.mem_cons, List.not_mem_nil, or_false] at hu
  subst hu; rfl

section
variable {P : Program} {w : World}
/-- append(v, x..): v a slice of the call's own, or nil; x whatever has cells. SOME value that holds both, in SOME world in which v's block alone may have turned. -/
theorem run_append_seg (B : Nat) (t ty e : TypeId) (i : TypeInfo) (z : Value) (size bytes : Nat) (ht : P.underlying t = some (.slice e)) (hi : P.info? e = some i) (hz : i.zero = some z)
    (hsize : i.size = size) (hby : i.bytes = bytes) (hzs : z.cells.size = size) (hsz : 0 < size)
    (v : Value) (n : Nat) (xs : List Value) (hown : Seg w B e size v n xs)
    (a : Addr) (m c : Nat) (news : List Value) (hl : news.length = m * size) (hnews : ∀ j u, news[j]? = some u → w.cell? (a.add j) = some u) (h1 : ∀ u ∈ news, u.oneCell' = true)
    (h63 : n + m ≤ maxLen) (hbytes : (n + m) * bytes ≤ 140737488355328) (hbase : B ≤ w.heap.size) :
    ∃ v' w', (Builtin.append_ #[t, t] ty #[v, .slice (some a) m c]).run P w = .ok v' w' ∧ Seg w' B e size v' (n + m) (xs ++ news) ∧ w.grownBy w' v.ownBlock ∧
      (∀ g, v'.ownBlock = some g → v.ownBlock = some g ∨ w.heap.size ≤ g) := by
  have hlo := hown.1
  rcases hown.2 with ⟨rfl, rfl⟩ | ⟨g, o, cap, cur, rfl, hB, hg, hle, hmax, hcs, hx⟩
  · obtain rfl : xs = [] := List.eq_nil_of_length_eq_zero (by simpa using hlo)
    obtain ⟨v', w', hr, h2, h3, _⟩ := run_append_own (P := P) w w.heap.size t ty e i z size bytes ht hi hz hsize hby hzs hsz (.slice none 0 0) 0 [] (World.ownsRow_nil w _ e size) a m c news hl hnews h1 h63 hbytes (Nat.le_refl _)
    exact ⟨v', w', hr, (Seg.of_owns h2).mono hbase, h3, fun k hk => .inr (h2.lt k hk).1⟩
  · have hblk : (Value.slice (some ⟨g, o, none⟩) n cap).ownBlock = some g := rfl
    by_cases hroom : n + m ≤ cap
    · subst hsize
      have hb : n * i.size + m * i.size ≤ cap * i.size := by rw [← Nat.add_mul]; exact Nat.mul_le_mul_right _ hroom
      have hcell : ∀ j, j < news.length → (w.cell? ⟨g, o + n * i.size + j, none⟩).isSome = true := by
        intro j hj
        have : o + n * i.size + j < cur.size := by omega
        rw [hg.cell]
        simp [this]
      have hfrz : ∀ j, j < news.length → w.frozen? ⟨g, o + n * i.size + j, none⟩ = false := by
        intro j hj
        exact hg.frozen _ (by omega)
      have hr := run_append_room_cells (P := P) w t ty e i ht hi g o n cap a m c news hl hnews h1 hroom hcell hfrz
      refine ⟨_, _, hr, ⟨by rw [List.length_append, hlo, hl, Nat.add_mul], .inr ⟨g, o, cap, _, rfl, hB, blk_setCells _ _ _ _ _ _ hg, hroom, hmax, by rw [size_putAll]; exact hcs, fun j hj => ?_⟩⟩, grown_setCells _ _ _ _, fun k hk => .inl hk⟩
      rw [Nat.add_mul] at hj
      by_cases hjn : j < n * i.size
      · rw [putAll_out _ _ _ _ (by omega), hx j hjn, List.getElem?_append_left (by omega)]
      · have := putAll_in news cur (o + n * i.size) (j - n * i.size) (by omega) (by omega)
        rw [show o + n * i.size + (j - n * i.size) = o + j by omega] at this
        rw [this, List.getElem?_append_right (by omega), hlo]
    · have holds : ∀ j u, xs[j]? = some u → w.cell? ((⟨g, o, none⟩ : Addr).add j) = some u := by
        intro j u hu
        have hj : j < n * size := by rw [← hlo]; exact (List.getElem?_eq_some_iff.1 hu).1
        rw [Addr.add_lit, hg.cell, hx j hj, hu]
      obtain ⟨v', w', hr, h2, h3⟩ := run_append_arg_grows (P := P) w t ty e i z size bytes ht hi hz hsize hby hzs hsz ⟨g, o, none⟩ n cap xs hlo holds a m c news hl hnews (by omega) h63 hbytes
      exact ⟨v', w', hr, (Seg.of_owns h2).mono hbase, ⟨h3.os, h3.tape, h3.output, h3.size, fun k hk _ => h3.block k hk (by simp)⟩, fun k hk => .inr (h2.lt k hk).1⟩

theorem wpList_append_seg {ops : Array Oper} {rest : List Oper} {o : Oper} {a : Act} {Q : Exit → Act → World → Prop} (hgd : o.guard = none) (s x : Operand) (t : TypeId)
    (ho : o.op = .call { callee := .builtin .append, args := #[s, x], argTypes := #[t, t] })
    (B : Nat) (e : TypeId) (i : TypeInfo) (z : Value) (size bytes : Nat) (ht : P.underlying t = some (.slice e)) (hi : P.info? e = some i) (hz : i.zero = some z)
    (hsize : i.size = size) (hby : i.bytes = bytes) (hzs : z.cells.size = size) (hsz : 0 < size)
    (v : Value) (n : Nat) (xs : List Value) (hs : a.eval s = v) (hown : Seg w B e size v n xs)
    (ad : Addr) (m c : Nat) (news : List Value) (hx : a.eval x = .slice (some ad) m c) (hl : news.length = m * size) (hnews : ∀ j u, news[j]? = some u → w.cell? (ad.add j) = some u) (h1 : ∀ u ∈ news, u.oneCell' = true)
    (h63 : n + m ≤ maxLen) (hbytes : (n + m) * bytes ≤ 140737488355328) (hbase : B ≤ w.heap.size)
    (h : ∀ v' w', Seg w' B e size v' (n + m) (xs ++ news) → w.grownBy w' v.ownBlock → (∀ g, v'.ownBlock = some g → v.ownBlock = some g ∨ w.heap.size ≤ g) → wpList P ops Q rest (a.put o.dst v') w') : wpList P ops Q (o :: rest) a w := by
  refine wpList_plain hgd fun K hK => ?_
  obtain ⟨v', w', hr, h2, h3, h4⟩ := run_append_seg (P := P) B t o.type e i z size bytes ht hi hz hsize hby hzs hsz v n xs hown ad m c news hl hnews h1 h63 hbytes hbase
  unfold Oper.wp execOp
  simp only [ho, resolve, invoke, builtin, Sem.run_bind, Sem.run_pure, Result.andThen_ok, List.map_toArray, List.map_cons, List.map_nil, hs, hx, hr]
  exact hK _ _ (h v' w' h2 h3 h4)

theorem run_append_seg_none (B : Nat) (t ty e : TypeId) (i : TypeInfo) (size : Nat) (ht : P.underlying t = some (.slice e)) (hi : P.info? e = some i)
    (v : Value) (n : Nat) (xs : List Value) (hown : Seg w B e size v n xs) : (Builtin.append_ #[t, t] ty #[v, .slice none 0 0]).run P w = .ok v w := by
  rcases hown.2 with ⟨rfl, rfl⟩ | ⟨g, o, cap, cur, rfl, _, _, hnc, _⟩
  · simp [Builtin.append_, run_underlying ht, sizeOf, typeInfo, hi, Builtin.lenOf, Builtin.firstCells]
  · simp [Builtin.append_, run_underlying ht, sizeOf, typeInfo, hi, Builtin.lenOf, Builtin.firstCells, hnc, storeCells]

/-- append(v, x..): x whatever may be read, nil too. -/
theorem wpList_append_rd {ops : Array Oper} {rest : List Oper} {o : Oper} {a : Act} {Q : Exit → Act → World → Prop} (hgd : o.guard = none) (s x : Operand) (t : TypeId)
    (ho : o.op = .call { callee := .builtin .append, args := #[s, x], argTypes := #[t, t] })
    (B : Nat) (e : TypeId) (i : TypeInfo) (z : Value) (size bytes : Nat) (ht : P.underlying t = some (.slice e)) (hi : P.info? e = some i) (hz : i.zero = some z)
    (hsize : i.size = size) (hby : i.bytes = bytes) (hzs : z.cells.size = size) (hsz : 0 < size)
    (v : Value) (n : Nat) (xs : List Value) (hs : a.eval s = v) (hown : Seg w B e size v n xs)
    (y : Value) (m : Nat) (ys : List Value) (hx : a.eval x = y) (hr : Rd w size y m ys) (h1 : ∀ u ∈ ys, u.oneCell' = true)
    (h63 : n + m ≤ maxLen) (hbytes : (n + m) * bytes ≤ 140737488355328) (hbase : B ≤ w.heap.size)
    (h : ∀ v' w', Seg w' B e size v' (n + m) (xs ++ ys) → w.grownBy w' v.ownBlock → (∀ g, v'.ownBlock = some g → v.ownBlock = some g ∨ w.heap.size ≤ g) → wpList P ops Q rest (a.put o.dst v') w') : wpList P ops Q (o :: rest) a w := by
  obtain ⟨hl, ao, c, rfl, hc, hm, hn, hR⟩ := hr
  cases ao with
  | none =>
    obtain ⟨rfl, rfl⟩ := hn rfl
    obtain rfl : ys = [] := List.eq_nil_of_length_eq_zero (by simpa using hl)
    refine wpList_plain hgd fun K hK => ?_
    have hrun := run_append_seg_none (P := P) B t o.type e i size ht hi v n xs hown
    unfold Oper.wp execOp
    simp only [ho, resolve, invoke, builtin, Sem.run_bind, Sem.run_pure, Result.andThen_ok, List.map_toArray, List.map_cons, List.map_nil, hs, hx, hrun]
    exact hK _ _ (h v w (by simpa using hown) ⟨rfl, rfl, rfl, Nat.le_refl _, fun _ _ _ => rfl⟩ (fun g hg => .inl hg))
  | some ad =>
    refine wpList_append_seg hgd s x t ho B e i z size bytes ht hi hz hsize hby hzs hsz v n xs hs hown ad m c ys hx hl (fun j u hu => ?_) h1 h63 hbytes hbase h
    have hm0 : 0 < m := by
      rcases Nat.eq_zero_or_pos m with h0 | h0
      · subst h0
        obtain rfl : ys = [] := List.eq_nil_of_length_eq_zero (by simpa using hl)
        simp at hu
      · exact h0
    obtain ⟨g, o2, e2, hg, hcell⟩ := hR hm0
    cases e2
    rw [Addr.add_lit]
    exact hcell j u hu
end
end Go.Proofs.YtaffaliplmfagaaGreatDoor.Own
