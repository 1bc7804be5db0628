/-
  paper.Get.
-/
import Derived.Test.YtaffaliplmfagaaGreatDoorPap6
set_option linter.unusedVariables false
set_option linter.unusedSimpArgs false
namespace Go.Proofs.YtaffaliplmfagaaGreatDoor.Line
open Go.RowKit Go.Sort Go.Proofs.YtaffaliplmfagaaGreatDoor.Own Go.Proofs.YtaffaliplmfagaaGreatDoor.Conv Go.Proofs.YtaffaliplmfagaaGreatDoor.Calm Go.Proofs.YtaffaliplmfagaaGreatDoor.Oct

/-- Where the found ones' octets end, or what is wrong; d of them, from at on. -/
def scanF (bs : List Int) : Nat → Nat → Nat × Int
  | at_, 0 => (at_, 0)
  | at_, d + 1 => if bs.length < at_ + 3 then (bs.length, 1) else
      if (Pick.wrongL (bs.drop (at_ + 3))).2 ≠ 0 then (at_ + 3 + (Pick.wrongL (bs.drop (at_ + 3))).1, (Pick.wrongL (bs.drop (at_ + 3))).2) else scanF bs (at_ + 3 + (Pick.wrongL (bs.drop (at_ + 3))).1) d
/-- Where octets are wrong first, and why. -/
def wrongP (bs : List Int) : Nat × Int :=
  if bs.length = 0 ∨ bs.getD 0 0 ≠ 82 then (0, 1) else if bs.length < 9 then (bs.length, 1) else
    if (scanF bs 9 (beN ((bs.drop 8).take 1))).2 ≠ 0 then scanF bs 9 (beN ((bs.drop 8).take 1)) else
      if (scanF bs 9 (beN ((bs.drop 8).take 1))).1 < bs.length then ((scanF bs 9 (beN ((bs.drop 8).take 1))).1, 1) else ((scanF bs 9 (beN ((bs.drop 8).take 1))).1, 0)
/-- The found ones that octets tell. -/
def gotF (bs : List Int) : Nat → Nat → List (K3 × List Int)
  | at_, 0 => []
  | at_, d + 1 => ((((beN ((bs.drop at_).take 1) : Nat) : Int), ((beN ((bs.drop (at_ + 1)).take 1) : Nat) : Int), ((beN ((bs.drop (at_ + 2)).take 1) : Nat) : Int)), ((bs.drop (at_ + 3)).drop 2).take (beN ((bs.drop (at_ + 3)).take 2))) :: gotF bs (at_ + 3 + (Pick.wrongL (bs.drop (at_ + 3))).1) d

theorem results_g (tmps : Array Value) (w : World) (rb ab eb : Nat) (c0 c1 c2 : Value) (x y : Int) (h2 : tmps.getD 2 undef = .pointer (some ⟨rb, 0, none⟩)) (h3 : tmps.getD 3 undef = .pointer (some ⟨ab, 0, none⟩)) (h4 : tmps.getD 4 undef = .pointer (some ⟨eb, 0, none⟩))
    (hr : Box w rb #[c0, c1, c2] 24) (ha : Box w ab #[.int .i64 x] 3) (he : Box w eb #[.int .i64 y] 31) :
    (results Tryz.f10 tmps).run Tryz.prog w = .ok (.tuple #[.agg #[c0, c1, c2], .int .i64 x, .int .i64 y]) w := by
  have h2' : tmps[2]?.getD undef = .pointer (some ⟨rb, 0, none⟩) := by simpa using h2
  have h3' : tmps[3]?.getD undef = .pointer (some ⟨ab, 0, none⟩) := by simpa using h3
  have h4' : tmps[4]?.getD undef = .pointer (some ⟨eb, 0, none⟩) := by simpa using h4
  have ca : w.cell? ⟨ab, 0, none⟩ = some (.int .i64 x) := ha.cell 0
  have ce : w.cell? ⟨eb, 0, none⟩ = some (.int .i64 y) := he.cell 0
  have r0 : w.cell? ⟨rb, 0, none⟩ = some c0 := hr.cell 0
  have r1 : w.cell? ⟨rb, 1, none⟩ = some c1 := hr.cell 1
  have r2 : w.cell? ⟨rb, 2, none⟩ = some c2 := hr.cell 2
  simp [results, Tryz.results10, h2', h3', h4', asAddr, go_sem, ca, ce, r0, r1, r2]

/-- The closure, deferred. -/
def dfr (rb ab eb : Nat) : Deferred := { target := .fn (.func 23) #[.pointer (some ⟨rb, 0, none⟩), .pointer (some ⟨ab, 0, none⟩), .pointer (some ⟨eb, 0, none⟩)], args := #[] }
theorem leave_panic {tmps : Array Value} {R : Ending → World → Prop} {w : World} {rb ab eb : Nat} {c0 c1 c2 a0 e0 : Value} {x y : Int} (h2 : tmps.getD 2 undef = .pointer (some ⟨rb, 0, none⟩)) (h3 : tmps.getD 3 undef = .pointer (some ⟨ab, 0, none⟩)) (h4 : tmps.getD 4 undef = .pointer (some ⟨eb, 0, none⟩))
    (hr : Box w rb #[c0, c1, c2] 24) (ha : Box w ab #[a0] 3) (he : Box w eb #[e0] 31) (n1 : rb ≠ ab) (n2 : rb ≠ eb) (n3 : ab ≠ eb)
    (hR : ∀ w', Kept (R3 rb ab eb) w w' → R (.returned (.tuple #[.agg #[.int .i64 0, .int .i64 0, .slice none 0 0], .int .i64 x, .int .i64 y])) w') :
    Leaves Tryz.prog Tryz.f10 tmps R [dfr rb ab eb] (.panicking [{ v := .iface 56 (.agg #[.int .i64 x, .int .i64 y]), recovered := false }]) w := by
  refine leaves_cons (f := 23) (args := #[.pointer (some ⟨rb, 0, none⟩), .pointer (some ⟨ab, 0, none⟩), .pointer (some ⟨eb, 0, none⟩)]) (by simp) (by simp [go_sem]) ?_
  refine (catch_panic rb ab eb x y [] c0 c1 c2 a0 e0 w hr ha he n1 n2 n3).mono ?_
  rintro e u' w' ⟨rfl, rfl, hk, hr', ha', he'⟩
  simp only [settle, List.dropWhile_nil, Leaves]
  exact ⟨_, results_g tmps w' rb ab eb _ _ _ x y h2 h3 h4 hr' ha' he', hR w' hk⟩
theorem leave_ret {tmps : Array Value} {R : Ending → World → Prop} {w : World} {rb ab eb : Nat} {c0 c1 c2 : Value} {x y : Int} (h2 : tmps.getD 2 undef = .pointer (some ⟨rb, 0, none⟩)) (h3 : tmps.getD 3 undef = .pointer (some ⟨ab, 0, none⟩)) (h4 : tmps.getD 4 undef = .pointer (some ⟨eb, 0, none⟩))
    (hr : Box w rb #[c0, c1, c2] 24) (ha : Box w ab #[.int .i64 x] 3) (he : Box w eb #[.int .i64 y] 31)
    (hR : ∀ w', Kept No w w' → R (.returned (.tuple #[.agg #[c0, c1, c2], .int .i64 x, .int .i64 y])) w') :
    Leaves Tryz.prog Tryz.f10 tmps R [dfr rb ab eb] .returning w := by
  refine leaves_cons (f := 23) (args := #[.pointer (some ⟨rb, 0, none⟩), .pointer (some ⟨ab, 0, none⟩), .pointer (some ⟨eb, 0, none⟩)]) (by simp) (by simp [go_sem]) ?_
  refine (catch_idle rb ab eb w).mono ?_
  rintro e u' w' ⟨rfl, rfl, rfl⟩
  have hk : Kept No w (w.alloc (.cells #[.int .i64 0, .int .i64 0] 56)) := (Kept.refl _ _).alloc _
  simp only [settle, Leaves]
  exact ⟨_, results_g tmps _ rb ab eb _ _ _ x y h2 h3 h4 (hr.kept hk id) (ha.kept hk id) (he.kept hk id), hR _ hk⟩

def keyF (f : FoundI) : K3 × List Int := ((f.k, f.i, f.j), f.zs)
def vdG (bs : List Int) : Int := (beN ((bs.drop 1).take 1) : Nat)
def edG (bs : List Int) : Int := (beN ((bs.drop 2).take 6) : Nat)
/-- What Get answers. -/
def PapGet (bs : List Int) (w : World) (e : Ending) (w' : World) : Prop :=
  Kept No w w' ∧ (((wrongP bs).2 ≠ 0 ∧ e = .returned (.tuple #[.agg #[.int .i64 0, .int .i64 0, .slice none 0 0], .int .i64 (wrongP bs).1, .int .i64 (wrongP bs).2])) ∨
    ((wrongP bs).2 = 0 ∧ (wrongP bs).1 = bs.length ∧ ∃ fs : List FoundI, fs.map keyF = gotF bs 9 (beN ((bs.drop 8).take 1)) ∧
      ((okR (vdG bs) (edG bs) fs = false ∧ e = .returned (.tuple #[.agg #[.int .i64 0, .int .i64 0, .slice none 0 0], .int .i64 0, .int .i64 3])) ∨
       (okR (vdG bs) (edG bs) fs = true ∧ ∃ ao cap, e = .returned (.tuple #[.agg #[.int .i64 (vdG bs), .int .i64 (edG bs), .slice ao fs.length cap], .int .i64 bs.length, .int .i64 0]) ∧ FR w' (.slice ao fs.length cap) fs))))

theorem row_same {w : World} {g : Nat} {cs : Array Value} {t : TypeId} (h : Box w g cs t) : Kept No w (w.setRow g cs) :=
  ⟨rfl, rfl, rfl, by rw [setRow_size]; exact Nat.le_refl _, fun k h1 h2 => by
    by_cases hk : k = g
    · subst hk
      exact (Box.row h).trans h.symm
    · exact setRow_other w g k cs hk⟩
/-- The three results stored. -/
theorem three {W : World} {rb : Nat} {c0 c1 c2 a0 e0 : Value} (n0 n1 n2 x y : Value) (hr : Box W rb #[c0, c1, c2] 24) (ha : Box W (rb + 1) #[a0] 3) (he : Box W (rb + 1 + 1) #[e0] 31) :
    (W.setRow rb #[n0, n1, n2]).cell? ⟨rb + 1, 0, none⟩ = some a0 ∧ (W.setRow rb #[n0, n1, n2]).frozen? ⟨rb + 1, 0, none⟩ = false ∧
    ((W.setRow rb #[n0, n1, n2]).setCell ⟨rb + 1, 0, none⟩ x).cell? ⟨rb + 1 + 1, 0, none⟩ = some e0 ∧ ((W.setRow rb #[n0, n1, n2]).setCell ⟨rb + 1, 0, none⟩ x).frozen? ⟨rb + 1 + 1, 0, none⟩ = false ∧
    Kept (R3 rb (rb + 1) (rb + 1 + 1)) W (((W.setRow rb #[n0, n1, n2]).setCell ⟨rb + 1, 0, none⟩ x).setCell ⟨rb + 1 + 1, 0, none⟩ y) ∧
    Box (((W.setRow rb #[n0, n1, n2]).setCell ⟨rb + 1, 0, none⟩ x).setCell ⟨rb + 1 + 1, 0, none⟩ y) rb #[n0, n1, n2] 24 ∧
    Box (((W.setRow rb #[n0, n1, n2]).setCell ⟨rb + 1, 0, none⟩ x).setCell ⟨rb + 1 + 1, 0, none⟩ y) (rb + 1) #[x] 3 ∧
    Box (((W.setRow rb #[n0, n1, n2]).setCell ⟨rb + 1, 0, none⟩ x).setCell ⟨rb + 1 + 1, 0, none⟩ y) (rb + 1 + 1) #[y] 31 := by
  have k1 : Kept (Only rb) W (W.setRow rb #[n0, n1, n2]) := row_only _ _ _
  have r1 : Box (W.setRow rb #[n0, n1, n2]) rb #[n0, n1, n2] 24 := hr.row
  have a1 := ha.kept k1 (fun h => by have : rb + 1 = rb := h; omega)
  have e1 := he.kept k1 (fun h => by have : rb + 1 + 1 = rb := h; omega)
  generalize W.setRow rb #[n0, n1, n2] = W1 at *
  have k2 : Kept (Only (rb + 1)) W1 (W1.setCell ⟨rb + 1, 0, none⟩ x) := (Kept.refl _ W1).setCell (p := ⟨rb + 1, 0, none⟩) (fun _ => by exact rfl) x
  have r2 := r1.kept k2 (fun h => by have : rb = rb + 1 := h; omega)
  have a2 : Box (W1.setCell ⟨rb + 1, 0, none⟩ x) (rb + 1) #[x] 3 := bset a1 0 x
  have e2 := e1.kept k2 (fun h => by have : rb + 1 + 1 = rb + 1 := h; omega)
  have ca : W1.cell? ⟨rb + 1, 0, none⟩ = some a0 := a1.cell 0
  have fa : W1.frozen? ⟨rb + 1, 0, none⟩ = false := a1.frozen 0
  generalize W1.setCell ⟨rb + 1, 0, none⟩ x = W2 at *
  have k3 : Kept (Only (rb + 1 + 1)) W2 (W2.setCell ⟨rb + 1 + 1, 0, none⟩ y) := (Kept.refl _ W2).setCell (p := ⟨rb + 1 + 1, 0, none⟩) (fun _ => by exact rfl) y
  have r3 := r2.kept k3 (fun h => by have : rb = rb + 1 + 1 := h; omega)
  have a3 := a2.kept k3 (fun h => by have : rb + 1 = rb + 1 + 1 := h; omega)
  have e3 : Box (W2.setCell ⟨rb + 1 + 1, 0, none⟩ y) (rb + 1 + 1) #[y] 31 := bset e2 0 y
  exact ⟨ca, fa, e2.cell 0, e2.frozen 0, ((k1.mono (fun q _ h => .inl h)).trans k2 (fun q _ h => .inr (.inl h))).trans k3 (fun q _ h => .inr (.inr h)), r3, a3, e3⟩
/-- What stands while Get reads. -/
structure GS (w : World) (rb sb g o n cap : Nat) (vd ed : Int) (fv : Value) (at_ : Nat) (fs : List FoundI) : Prop where
  br : Box w rb #[.int .i64 vd, .int .i64 ed, fv] 24
  ba : Box w (rb + 1) #[.int .i64 0] 3
  be : Box w (rb + 1 + 1) #[.int .i64 0] 31
  bs : Box w sb #[.slice (some ⟨g, o, none⟩) n cap, .int .i64 at_] 60
  lt : rb + 3 ≤ sb
  seg : Seg w (sb + 1) 48 4 fv fs.length (foundV fs)
  row : ∀ f ∈ fs, Seg w (sb + 1) 3 1 f.v f.n (vals f.zs)
theorem GS.kept {w w' : World} {rb sb g o n cap : Nat} {vd ed : Int} {fv : Value} {at_ : Nat} {fs : List FoundI} (h : GS w rb sb g o n cap vd ed fv at_ fs) (hk : Kept No w w') : GS w' rb sb g o n cap vd ed fv at_ fs :=
  ⟨h.br.kept hk id, h.ba.kept hk id, h.be.kept hk id, h.bs.kept hk id, h.lt, h.seg.kept hk (fun _ _ => id), fun f hf => (h.row f hf).kept hk (fun _ _ => id)⟩
theorem GS.take {w w' : World} {rb sb g o n cap : Nat} {vd ed : Int} {fv : Value} {at_ : Nat} {fs : List FoundI} (h : GS w rb sb g o n cap vd ed fv at_ fs) (hk : Kept (Only sb) w w') {at' : Nat} (hb : Box w' sb #[.slice (some ⟨g, o, none⟩) n cap, .int .i64 at'] 60) : GS w' rb sb g o n cap vd ed fv at' fs := by
  have hlt := h.lt
  exact ⟨h.br.kept hk (fun e => by have : rb = sb := e; omega), h.ba.kept hk (fun e => by have : rb + 1 = sb := e; omega), h.be.kept hk (fun e => by have : rb + 1 + 1 = sb := e; omega), hb, hlt,
    h.seg.kept hk (fun q hq e => by have h1 := (h.seg.lt q hq).1; have h2 : q = sb := e; omega),
    fun f hf => (h.row f hf).kept hk (fun q hq e => by have h1 := ((h.row f hf).lt q hq).1; have h2 : q = sb := e; omega)⟩
theorem GS.rep {w w' : World} {rb sb g o n cap : Nat} {vd ed : Int} {fv : Value} {at_ : Nat} {fs : List FoundI} (h : GS w rb sb g o n cap vd ed fv at_ fs) (hk : Kept (Only rb) w w') {vd' ed' : Int} (hb : Box w' rb #[.int .i64 vd', .int .i64 ed', fv] 24) : GS w' rb sb g o n cap vd' ed' fv at_ fs := by
  have hlt := h.lt
  exact ⟨hb, h.ba.kept hk (fun e => by have : rb + 1 = rb := e; omega), h.be.kept hk (fun e => by have : rb + 1 + 1 = rb := e; omega), h.bs.kept hk (fun e => by have : sb = rb := e; omega), hlt,
    h.seg.kept hk (fun q hq e => by have h1 := (h.seg.lt q hq).1; have h2 : q = rb := e; omega),
    fun f hf => (h.row f hf).kept hk (fun q hq e => by have h1 := ((h.row f hf).lt q hq).1; have h2 : q = rb := e; omega)⟩

theorem GS.off {w w' : World} {rb sb g o n cap : Nat} {vd ed : Int} {fv : Value} {at_ : Nat} {fs : List FoundI} (h : GS w rb sb g o n cap vd ed fv at_ fs) (hk : Kept (Only sb) w w') : Box w' rb #[.int .i64 vd, .int .i64 ed, fv] 24 ∧ Box w' (rb + 1) #[.int .i64 0] 3 ∧ Box w' (rb + 1 + 1) #[.int .i64 0] 31 := by
  have hlt := h.lt
  exact ⟨h.br.kept hk (fun e => by have : rb = sb := e; omega), h.ba.kept hk (fun e => by have : rb + 1 = sb := e; omega), h.be.kept hk (fun e => by have : rb + 1 + 1 = sb := e; omega)⟩
theorem scan_short {bs : List Int} {at_ d : Nat} (h : bs.length < at_ + 3) : scanF bs at_ (d + 1) = (bs.length, 1) := by rw [scanF, if_pos h]
theorem scan_wrong {bs : List Int} {at_ d : Nat} (h : ¬ bs.length < at_ + 3) (h1 : (Pick.wrongL (bs.drop (at_ + 3))).2 ≠ 0) : scanF bs at_ (d + 1) = (at_ + 3 + (Pick.wrongL (bs.drop (at_ + 3))).1, (Pick.wrongL (bs.drop (at_ + 3))).2) := by rw [scanF, if_neg h, if_pos h1]
theorem scan_step {bs : List Int} {at_ d : Nat} (h : ¬ bs.length < at_ + 3) (h1 : (Pick.wrongL (bs.drop (at_ + 3))).2 = 0) : scanF bs at_ (d + 1) = scanF bs (at_ + 3 + (Pick.wrongL (bs.drop (at_ + 3))).1) d := by rw [scanF, if_neg h, if_neg (fun e => e h1)]
theorem wrong_few {bs : List Int} (h0 : bs.length ≠ 0) (h1 : bs.getD 0 0 = 82) (h2 : bs.length < 9) : wrongP bs = (bs.length, 1) := by
  rw [wrongP, if_neg (by intro e; rcases e with e | e; exact h0 e; exact e h1), if_pos h2]
theorem wrong_scan {bs : List Int} (h1 : bs.getD 0 0 = 82) (h2 : ¬ bs.length < 9) {a : Nat} {b : Int} (h3 : scanF bs 9 (beN ((bs.drop 8).take 1)) = (a, b)) (hb : b ≠ 0) : wrongP bs = (a, b) := by
  rw [wrongP, if_neg (by intro e; rcases e with e | e; omega; exact e h1), if_neg h2, h3, if_pos hb]
theorem wrong_more {bs : List Int} (h1 : bs.getD 0 0 = 82) (h2 : ¬ bs.length < 9) {a : Nat} (h3 : scanF bs 9 (beN ((bs.drop 8).take 1)) = (a, 0)) (hb : a < bs.length) : wrongP bs = (a, 1) := by
  rw [wrongP, if_neg (by intro e; rcases e with e | e; omega; exact e h1), if_neg h2, h3, if_neg (fun e => e rfl), if_pos hb]
theorem wrong_none {bs : List Int} (h1 : bs.getD 0 0 = 82) (h2 : ¬ bs.length < 9) {a : Nat} (h3 : scanF bs 9 (beN ((bs.drop 8).take 1)) = (a, 0)) (hb : ¬ a < bs.length) : wrongP bs = (a, 0) := by
  rw [wrongP, if_neg (by intro e; rcases e with e | e; omega; exact e h1), if_neg h2, h3, if_neg (fun e => e rfl), if_neg hb]
theorem seg_ne {w : World} {B1 B2 n1 n2 s1 s2 : Nat} {e1 e2 : TypeId} {v1 v2 : Value} {x1 x2 : List Value} (h1 : Seg w B1 e1 s1 v1 n1 x1) (h2 : Seg w B2 e2 s2 v2 n2 x2) (he : e1 ≠ e2) : ∀ q, v1.ownBlock = some q → v2.ownBlock ≠ some q := by
  intro q hq hq2
  rcases h1.2 with ⟨rfl, _⟩ | ⟨g1, o1, c1, cur1, rfl, _, ⟨f1, hh1, _⟩, _⟩
  · cases hq
  · rcases h2.2 with ⟨rfl, _⟩ | ⟨g2, o2, c2, cur2, rfl, _, ⟨f2, hh2, _⟩, _⟩
    · cases hq2
    · obtain rfl : g1 = q := Option.some.inj hq
      obtain rfl : g2 = g1 := Option.some.inj hq2
      have := hh1.symm.trans hh2
      simp only [Option.some.injEq, Obj.cells.injEq] at this
      exact he this.2.1
theorem GS.fr {w : World} {rb sb g o n cap : Nat} {vd ed : Int} {fv : Value} {at_ : Nat} {fs : List FoundI} (h : GS w rb sb g o n cap vd ed fv at_ fs) : FR w fv fs := ⟨h.seg.rd, fun f hf => (h.row f hf).rd⟩
theorem info_found : (Tryz.prog.info? 48).map (fun i => (i.zero, i.size, i.bytes)) = some (some (.agg #[.int .i64 0, .int .i64 0, .int .i64 0, .slice none 0 0]), 4, 48) := by kernel_rfl

theorem GS.fresh {w w' : World} {rb sb g o n cap fx : Nat} {vd ed : Int} {fv : Value} {at_ : Nat} {fs : List FoundI} (h : GS w rb sb g o n cap vd ed fv at_ fs) (hk : Kept (Only fx) w w') (h1 : sb < fx) (h2 : ∀ q, fv.ownBlock = some q → sb + 1 ≤ q ∧ q < fx) (h3 : ∀ f ∈ fs, ∀ q, f.v.ownBlock = some q → q < fx) : GS w' rb sb g o n cap vd ed fv at_ fs := by
  have hlt := h.lt
  exact ⟨h.br.kept hk (fun e => by have : rb = fx := e; omega), h.ba.kept hk (fun e => by have : rb + 1 = fx := e; omega), h.be.kept hk (fun e => by have : rb + 1 + 1 = fx := e; omega), h.bs.kept hk (fun e => by have : sb = fx := e; omega), hlt,
    h.seg.kept hk (fun q hq e => by have h4 := (h2 q hq).2; have h5 : q = fx := e; omega),
    fun f hf => (h.row f hf).kept hk (fun q hq e => by have h4 := h3 f hf q hq; have h5 : q = fx := e; omega)⟩

theorem run_alloc3 (w : World) : Kept No w (((w.alloc (.cells #[.int .i64 0, .int .i64 0, .slice none 0 0] 24)).alloc (.cells #[.int .i64 0] 3)).alloc (.cells #[.int .i64 0] 31)) := (((Kept.refl No w).alloc _).alloc _).alloc _

set_option maxRecDepth 100000 in
set_option maxHeartbeats 16000000 in
theorem paperget_is (g o n cap : Nat) (bs : List Int) (w : World) (h : Rd w 1 (.slice (some ⟨g, o, none⟩) n cap) n (bv bs)) (hoc : Octs bs) (hn1 : 1 ≤ n) (hn : n ≤ 1000) :
    Calls Tryz.prog 10 #[.slice (some ⟨g, o, none⟩) n cap] w (PapGet bs w) := by
  have hl : bs.length = n := by have := h.len; rw [bv_len] at this; omega
  obtain ⟨-, ao, c, hv, hc, hm, -, hcell⟩ := id h
  rw [Value.slice.injEq] at hv
  obtain ⟨rfl, -, rfl⟩ := hv
  unfold maxLen at hm
  obtain ⟨g', o', hgo, hg, hcell⟩ := hcell (by omega)
  simp only [Option.some.injEq, Addr.mk.injEq, and_true] at hgo
  obtain ⟨rfl, rfl⟩ := hgo
  obtain ⟨z0, hz0⟩ : ∃ z, bs[0]? = some z := ⟨_, List.getElem?_eq_getElem (by omega)⟩
  have hcz := hcell 0 (.int .u8 z0) (by rw [bv, List.getElem?_map, hz0]; rfl)
  have hgd0 : Hid (bs.getD 0 0 = z0) := Lib.hid (by rw [List.getD_eq_getElem?_getD, hz0]; rfl)
  have hmf : ∀ (fn : Fn) (first cap : Array Value) (w : World), (Instr.makeFunc fn first cap).run Tryz.prog w = .ok (.func fn first cap) w := fun _ _ _ _ => rfl
  have hk0 := run_alloc3 w
  have br := ((Box.new w #[.int .i64 0, .int .i64 0, .slice none 0 0] 24).alloc (.cells #[.int .i64 0] 3)).alloc (.cells #[.int .i64 0] 31)
  have ba := (Box.new (w.alloc (.cells #[.int .i64 0, .int .i64 0, .slice none 0 0] 24)) #[.int .i64 0] 3).alloc (.cells #[.int .i64 0] 31)
  have be := Box.new ((w.alloc (.cells #[.int .i64 0, .int .i64 0, .slice none 0 0] 24)).alloc (.cells #[.int .i64 0] 3)) #[.int .i64 0] 31
  simp only [World.size_alloc] at ba be
  have HL := Lib.hid hl
  have HR := Lib.hid h
  have HO := Lib.hid hoc
  clear hl h hoc hcell hz0
  go_enter_defers Tryz.func10, Tryz.ntmps10
  go_upto_region 2 with fail
  have hszA : (((w.alloc (.cells #[.int .i64 0, .int .i64 0, .slice none 0 0] 24)).alloc (.cells #[.int .i64 0] 3)).alloc (.cells #[.int .i64 0] 31)).heap.size = w.heap.size + 3 := by simp [World.size_alloc]
  have hsz0 := Nat.le_of_eq hszA
  have hsz1 := Nat.le_of_eq hszA.symm
  clear hszA
  generalize ((w.alloc (.cells #[.int .i64 0, .int .i64 0, .slice none 0 0] 24)).alloc (.cells #[.int .i64 0] 3)).alloc (.cells #[.int .i64 0] 31) = w0 at *
  have HBR := Lib.hid br
  have HBA := Lib.hid ba
  have HBE := Lib.hid be
  have HK0 := Lib.hid hk0
  have c0 : w0.cell? ⟨g, o, none⟩ = some (.int .u8 z0) := (hk0.cell (p := ⟨g, o, none⟩) hg id).trans hcz
  have hne0 : ((n : Int) == 0) = false := by rw [beq_eq_false_iff_ne]; omega
  clear br ba be hk0 hcz
  by_cases h82 : z0 = 82
  · have hq : (z0 != 82) = false := by rw [h82]; rfl
    have H82 := Lib.hid h82
    have hgd : Hid (bs.getD 0 0 = 82) := Lib.hid (by rw [hgd0.out]; exact h82)
    have hb0 : Hid (bs.length ≠ 0) := Lib.hid (by have := HL.out; omega)
    clear h82
    go_upto_region 5 with fail
    have G0 : GS (w0.alloc (.cells #[.slice (some ⟨g, o, none⟩) n cap, .int .i64 1] 60)) w.heap.size w0.heap.size g o n cap 0 0 (.slice none 0 0) 1 [] :=
      ⟨HBR.out.alloc _, HBA.out.alloc _, HBE.out.alloc _, Box.new _ _ _, hsz1, Seg.nil _ _ _ _, fun f hf => by simp at hf⟩
    have hkA : Kept No w (w0.alloc (.cells #[.slice (some ⟨g, o, none⟩) n cap, .int .i64 1] 60)) := HK0.out.alloc _
    generalize w0.alloc (.cells #[.slice (some ⟨g, o, none⟩) n cap, .int .i64 1] 60) = wS at *
    have hgs : g ≠ w0.heap.size := by omega
    generalize w0.heap.size = sb at *
    have hR0 := HR.out.kept hkA (fun _ _ => id)
    have hS : ∀ (wa wb : World), Kept No w wa → Kept (Only sb) wa wb → Kept No w wb := fun _ _ h1 h2 => h1.trans h2 (fun q hq e => by have h3 : q = sb := e; omega)
    have HS := Lib.hid hS
    clear hS hq c0 HBR HBA HBE HK0
    have hT1 := take_is sb g o n cap bs 1 1 wS G0.bs hR0 HO.out hgs hn1 (by omega) hn1 (by omega) (by omega)
    have HT1 := Lib.hid hT1
    have HG0 := Lib.hid G0
    have HKA := Lib.hid hkA
    clear hT1 G0 hkA
    go_wp2_with fail
    refine HT1.out.mono ?_
    rintro e w1 ⟨k1, ⟨hbad, rfl⟩ | ⟨hge, rfl, hb1⟩⟩
    · obtain ⟨x1, x2, x3⟩ := HG0.out.off k1
      have HW : Hid (wrongP bs = (n, 1)) := Lib.hid (by rw [wrong_few hb0.out hgd.out (by rw [HL.out]; omega), HL.out])
      exact leave_panic rfl rfl rfl x1 x2 x3 (by omega) (by omega) (by omega) (fun w' hk => ⟨(HS.out _ _ HKA.out k1).trans hk (fun q hq h => by rcases h with h | h | h <;> omega), .inl ⟨by rw [HW.out]; exact (by decide : (1 : Int) ≠ 0), by rw [HW.out]⟩⟩)
    have HG1 := Lib.hid (HG0.out.take k1 hb1)
    have HK1 := Lib.hid (HS.out _ _ HKA.out k1)
    have hR1 := HR.out.kept HK1.out (fun _ _ => id)
    have hT2 := take_is sb g o n cap bs 2 6 w1 HG1.out.bs hR1 HO.out hgs hn1 (by omega) (by omega) (by omega) (by omega)
    have HT2 := Lib.hid hT2
    clear hT2 k1 hb1 hR1 hR0 HT1 HG0 HKA
    obtain ⟨xv, hxv⟩ : ∃ x : Nat, beN ((bs.drop 1).take 1) = x := ⟨_, rfl⟩
    rw [hxv]
    have HXV := Lib.hid hxv
    clear hxv
    go_wp2_with fail
    refine HT2.out.mono ?_
    rintro e w2 ⟨k2, ⟨hbad, rfl⟩ | ⟨hge2, rfl, hb2⟩⟩
    · obtain ⟨x1, x2, x3⟩ := HG1.out.off k2
      have HW : Hid (wrongP bs = (n, 1)) := Lib.hid (by rw [wrong_few hb0.out hgd.out (by rw [HL.out]; omega), HL.out])
      exact leave_panic rfl rfl rfl x1 x2 x3 (by omega) (by omega) (by omega) (fun w' hk => ⟨(HS.out _ _ HK1.out k2).trans hk (fun q hq h => by rcases h with h | h | h <;> omega), .inl ⟨by rw [HW.out]; exact (by decide : (1 : Int) ≠ 0), by rw [HW.out]⟩⟩)
    have HG2 := Lib.hid (HG1.out.take k2 hb2)
    have HK2 := Lib.hid (HS.out _ _ HK1.out k2)
    clear k2 hb2 HT2 HG1 HK1
    obtain ⟨xe, hxe⟩ : ∃ x : Nat, beN ((bs.drop 2).take 6) = x := ⟨_, rfl⟩
    rw [hxe]
    have HXE := Lib.hid hxe
    clear hxe
    have q0 : w2.cell? ⟨w.heap.size, 0, none⟩ = some (.int .i64 0) := HG2.out.br.cell 0
    have q1 : w2.frozen? ⟨w.heap.size, 0, none⟩ = false := HG2.out.br.frozen 0
    have b3 : Box (w2.setCell ⟨w.heap.size, 0, none⟩ (.int .i64 xv)) w.heap.size #[.int .i64 xv, .int .i64 0, .slice none 0 0] 24 := bset HG2.out.br 0 _
    have k3 : Kept (Only w.heap.size) w2 (w2.setCell ⟨w.heap.size, 0, none⟩ (.int .i64 xv)) := (Kept.refl _ w2).setCell (p := ⟨w.heap.size, 0, none⟩) (fun _ => by exact rfl) _
    have q2 : (w2.setCell ⟨w.heap.size, 0, none⟩ (.int .i64 xv)).cell? ⟨w.heap.size, 1, none⟩ = some (.int .i64 0) := b3.cell 1
    have q3 : (w2.setCell ⟨w.heap.size, 0, none⟩ (.int .i64 xv)).frozen? ⟨w.heap.size, 1, none⟩ = false := b3.frozen 1
    have b4 : Box ((w2.setCell ⟨w.heap.size, 0, none⟩ (.int .i64 xv)).setCell ⟨w.heap.size, 1, none⟩ (.int .i64 xe)) w.heap.size #[.int .i64 xv, .int .i64 xe, .slice none 0 0] 24 := bset b3 1 _
    have k4 : Kept (Only w.heap.size) w2 ((w2.setCell ⟨w.heap.size, 0, none⟩ (.int .i64 xv)).setCell ⟨w.heap.size, 1, none⟩ (.int .i64 xe)) := k3.setCell (p := ⟨w.heap.size, 1, none⟩) (fun _ => by exact rfl) _
    have HG4 := Lib.hid (HG2.out.rep k4 b4)
    have HK4 := Lib.hid (HK2.out.trans k4 (fun q hq h => by have : q = w.heap.size := h; omega))
    clear b3 k3 b4 k4 HG2 HK2
    go_upto_region 6 with fail
    clear q0 q1 q2 q3
    generalize (w2.setCell ⟨w.heap.size, 0, none⟩ (.int .i64 xv)).setCell ⟨w.heap.size, 1, none⟩ (.int .i64 xe) = w4 at *
    have hR4 := HR.out.kept HK4.out (fun _ _ => id)
    have hT3 := take_is sb g o n cap bs 8 1 w4 HG4.out.bs hR4 HO.out hgs hn1 (by omega) (by omega) (by omega) (by omega)
    have HT3 := Lib.hid hT3
    clear hT3 hR4
    go_wp2_with fail
    refine HT3.out.mono ?_
    rintro e w5 ⟨k5, ⟨hbad, rfl⟩ | ⟨hge3, rfl, hb5⟩⟩
    · obtain ⟨x1, x2, x3⟩ := HG4.out.off k5
      have HW : Hid (wrongP bs = (n, 1)) := Lib.hid (by rw [wrong_few hb0.out hgd.out (by rw [HL.out]; omega), HL.out])
      exact leave_panic rfl rfl rfl x1 x2 x3 (by omega) (by omega) (by omega) (fun w' hk => ⟨(HS.out _ _ HK4.out k5).trans hk (fun q hq h => by rcases h with h | h | h <;> omega), .inl ⟨by rw [HW.out]; exact (by decide : (1 : Int) ≠ 0), by rw [HW.out]⟩⟩)
    have HG5 := Lib.hid (HG4.out.take k5 hb5)
    have HK5 := Lib.hid (HS.out _ _ HK4.out k5)
    have h9 : Hid (¬ bs.length < 9) := Lib.hid (by rw [HL.out]; omega)
    obtain ⟨cnt, hcnt⟩ : ∃ x : Nat, beN ((bs.drop 8).take 1) = x := ⟨_, rfl⟩
    rw [hcnt]
    have HCNT := Lib.hid hcnt
    clear k5 hb5 HT3 HG4 HK4 hcnt
    have hcb : cnt < 256 := by
      have := beN_lt 1 (bs.drop 8) (fun c hc => HO.out c (List.mem_of_mem_drop hc))
      rw [HCNT.out] at this
      simpa using this
    go_wp2_with fail
    go_loopw [29] (fun i wr => ∃ (t at_ : Nat) (fs : List FoundI) (fv : Value), t ≤ cnt ∧ i = .int .i64 t ∧ at_ ≤ n ∧ Hid (fs.length = t) ∧ Hid (GS wr w.heap.size sb g o n cap xv xe fv at_ fs) ∧ Hid (fs.map keyF ++ gotF bs at_ (cnt - t) = gotF bs 9 cnt) ∧ Hid (scanF bs at_ (cnt - t) = scanF bs 9 cnt) ∧ Hid (Kept No w wr)) (fun i _ => cnt - (intOf i).toNat)
    case atStart => exact ⟨0, 9, [], _, by omega, rfl, by omega, Lib.hid rfl, HG5, Lib.hid rfl, Lib.hid rfl, HK5⟩
    case round =>
      clear HG5 HK5
      obtain ⟨t, at_, fs, fv, ht, rfl, hat, hft, hG, hgot, hscan, hK⟩ := hrel
      by_cases hlt : t < cnt
      · go_upto_region 9 with fail
        have hkA : Kept No wr (wr.alloc (.cells #[.int .i64 0, .int .i64 0, .int .i64 0, .slice none 0 0] 48)) := (Kept.refl _ _).alloc _
        have bx := Box.new wr #[.int .i64 0, .int .i64 0, .int .i64 0, .slice none 0 0] 48
        have hsx : sb < wr.heap.size := hG.out.bs.lt
        have hsg := hG.out.seg.lt
        have hrw := fun f hf q hq => ((hG.out.row f hf).lt q hq).2
        generalize hww : wr.alloc (.cells #[.int .i64 0, .int .i64 0, .int .i64 0, .slice none 0 0] 48) = w6 at *
        clear hww
        have HSG := Lib.hid hsg
        have HRW := Lib.hid hrw
        have HG6 := Lib.hid (hG.out.kept hkA)
        have HK6 := Lib.hid (hK.out.trans hkA (fun _ _ f => f))
        have HX6 := Lib.hid bx
        clear hG hK bx hkA hsg hrw
        generalize hfx : wr.heap.size = fx at *
        clear hfx
        have hT := take_is sb g o n cap bs at_ 1 w6 HG6.out.bs (HR.out.kept HK6.out (fun _ _ => id)) HO.out hgs hn1 (by omega) hat (by omega) (by omega)
        have HT := Lib.hid hT
        clear hT
        go_wp2_with fail
        refine HT.out.mono ?_
        rintro e w7 ⟨k7, ⟨hbad, rfl⟩ | ⟨hge4, rfl, hb7⟩⟩
        · obtain ⟨x1, x2, x3⟩ := HG6.out.off k7
          have HW : Hid (wrongP bs = (n, 1)) := Lib.hid (wrong_scan hgd.out h9.out (by rw [HCNT.out, ← hscan.out, show cnt - t = (cnt - t - 1) + 1 by omega, scan_short (by rw [HL.out]; omega), HL.out]) (by decide))
          exact leave_panic rfl rfl rfl x1 x2 x3 (by omega) (by omega) (by omega) (fun w' hk => ⟨(HS.out _ _ HK6.out k7).trans hk (fun q hq h => by rcases h with h | h | h <;> omega), .inl ⟨by rw [HW.out]; exact (by decide : (1 : Int) ≠ 0), by rw [HW.out]⟩⟩)
        have HG7 := Lib.hid (HG6.out.take k7 hb7)
        have HK7 := Lib.hid (HS.out _ _ HK6.out k7)
        have HX7 := Lib.hid (HX6.out.kept k7 (fun e => by have : fx = sb := e; omega))
        clear k7 hb7 HT HG6 HK6 HX6
        obtain ⟨ya, hya⟩ : ∃ x : Nat, beN ((bs.drop at_).take 1) = x := ⟨_, rfl⟩
        rw [hya]
        have HYA := Lib.hid hya
        clear hya
        have hT := take_is sb g o n cap bs (at_ + 1) 1 w7 HG7.out.bs (HR.out.kept HK7.out (fun _ _ => id)) HO.out hgs hn1 (by omega) (by omega) (by omega) (by omega)
        have HT := Lib.hid hT
        clear hT
        go_wp2_with fail
        refine HT.out.mono ?_
        rintro e w8 ⟨k8, ⟨hbad, rfl⟩ | ⟨hge5, rfl, hb8⟩⟩
        · obtain ⟨x1, x2, x3⟩ := HG7.out.off k8
          have HW : Hid (wrongP bs = (n, 1)) := Lib.hid (wrong_scan hgd.out h9.out (by rw [HCNT.out, ← hscan.out, show cnt - t = (cnt - t - 1) + 1 by omega, scan_short (by rw [HL.out]; omega), HL.out]) (by decide))
          exact leave_panic rfl rfl rfl x1 x2 x3 (by omega) (by omega) (by omega) (fun w' hk => ⟨(HS.out _ _ HK7.out k8).trans hk (fun q hq h => by rcases h with h | h | h <;> omega), .inl ⟨by rw [HW.out]; exact (by decide : (1 : Int) ≠ 0), by rw [HW.out]⟩⟩)
        have HG8 := Lib.hid (HG7.out.take k8 hb8)
        have HK8 := Lib.hid (HS.out _ _ HK7.out k8)
        have HX8 := Lib.hid (HX7.out.kept k8 (fun e => by have : fx = sb := e; omega))
        clear k8 hb8 HT HG7 HK7 HX7
        obtain ⟨yb, hyb⟩ : ∃ x : Nat, beN ((bs.drop (at_ + 1)).take 1) = x := ⟨_, rfl⟩
        rw [hyb]
        have HYB := Lib.hid hyb
        clear hyb
        have hT := take_is sb g o n cap bs (at_ + 1 + 1) 1 w8 HG8.out.bs (HR.out.kept HK8.out (fun _ _ => id)) HO.out hgs hn1 (by omega) (by omega) (by omega) (by omega)
        have HT := Lib.hid hT
        clear hT
        go_wp2_with fail
        refine HT.out.mono ?_
        rintro e w9 ⟨k9, ⟨hbad, rfl⟩ | ⟨hge6, rfl, hb9⟩⟩
        · obtain ⟨x1, x2, x3⟩ := HG8.out.off k9
          have HW : Hid (wrongP bs = (n, 1)) := Lib.hid (wrong_scan hgd.out h9.out (by rw [HCNT.out, ← hscan.out, show cnt - t = (cnt - t - 1) + 1 by omega, scan_short (by rw [HL.out]; omega), HL.out]) (by decide))
          exact leave_panic rfl rfl rfl x1 x2 x3 (by omega) (by omega) (by omega) (fun w' hk => ⟨(HS.out _ _ HK8.out k9).trans hk (fun q hq h => by rcases h with h | h | h <;> omega), .inl ⟨by rw [HW.out]; exact (by decide : (1 : Int) ≠ 0), by rw [HW.out]⟩⟩)
        have HG9 := Lib.hid (HG8.out.take k9 hb9)
        have HK9 := Lib.hid (HS.out _ _ HK8.out k9)
        have HX9 := Lib.hid (HX8.out.kept k9 (fun e => by have : fx = sb := e; omega))
        clear k9 hb9 HT HG8 HK8 HX8
        obtain ⟨yc, hyc⟩ : ∃ x : Nat, beN ((bs.drop (at_ + 1 + 1)).take 1) = x := ⟨_, rfl⟩
        rw [hyc]
        have HYC := Lib.hid hyc
        clear hyc
        have q0 : w9.cell? ⟨fx, 0, none⟩ = some (.int .i64 0) := HX9.out.cell 0
        have q1 : w9.frozen? ⟨fx, 0, none⟩ = false := HX9.out.frozen 0
        have b1 : Box (w9.setCell ⟨fx, 0, none⟩ (.int .i64 ya)) fx #[.int .i64 ya, .int .i64 0, .int .i64 0, .slice none 0 0] 48 := bset HX9.out 0 _
        have k1 : Kept (Only fx) w9 (w9.setCell ⟨fx, 0, none⟩ (.int .i64 ya)) := (Kept.refl _ w9).setCell (p := ⟨fx, 0, none⟩) (fun _ => by exact rfl) _
        have q2 : (w9.setCell ⟨fx, 0, none⟩ (.int .i64 ya)).cell? ⟨fx, 1, none⟩ = some (.int .i64 0) := b1.cell 1
        have q3 : (w9.setCell ⟨fx, 0, none⟩ (.int .i64 ya)).frozen? ⟨fx, 1, none⟩ = false := b1.frozen 1
        have b2 : Box ((w9.setCell ⟨fx, 0, none⟩ (.int .i64 ya)).setCell ⟨fx, 1, none⟩ (.int .i64 yb)) fx #[.int .i64 ya, .int .i64 yb, .int .i64 0, .slice none 0 0] 48 := bset b1 1 _
        have k2 : Kept (Only fx) w9 ((w9.setCell ⟨fx, 0, none⟩ (.int .i64 ya)).setCell ⟨fx, 1, none⟩ (.int .i64 yb)) := k1.setCell (p := ⟨fx, 1, none⟩) (fun _ => by exact rfl) _
        have q4 : ((w9.setCell ⟨fx, 0, none⟩ (.int .i64 ya)).setCell ⟨fx, 1, none⟩ (.int .i64 yb)).cell? ⟨fx, 2, none⟩ = some (.int .i64 0) := b2.cell 2
        have q5 : ((w9.setCell ⟨fx, 0, none⟩ (.int .i64 ya)).setCell ⟨fx, 1, none⟩ (.int .i64 yb)).frozen? ⟨fx, 2, none⟩ = false := b2.frozen 2
        have b3 : Box (((w9.setCell ⟨fx, 0, none⟩ (.int .i64 ya)).setCell ⟨fx, 1, none⟩ (.int .i64 yb)).setCell ⟨fx, 2, none⟩ (.int .i64 yc)) fx #[.int .i64 ya, .int .i64 yb, .int .i64 yc, .slice none 0 0] 48 := bset b2 2 _
        have k3 : Kept (Only fx) w9 (((w9.setCell ⟨fx, 0, none⟩ (.int .i64 ya)).setCell ⟨fx, 1, none⟩ (.int .i64 yb)).setCell ⟨fx, 2, none⟩ (.int .i64 yc)) := k2.setCell (p := ⟨fx, 2, none⟩) (fun _ => by exact rfl) _
        have hwfx : w.heap.size < fx := by omega
        have HG10 := Lib.hid (HG9.out.fresh k3 hsx HSG.out HRW.out)
        have HK10 := Lib.hid (HK9.out.trans k3 (fun q hq e => by have : q = fx := e; omega))
        have HX10 := Lib.hid b3
        clear b1 b2 b3 k1 k2 k3 HG9 HK9 HX9
        go_upto_region 10 with fail
        clear q0 q1 q2 q3 q4 q5
        generalize ((w9.setCell ⟨fx, 0, none⟩ (.int .i64 ya)).setCell ⟨fx, 1, none⟩ (.int .i64 yb)).setCell ⟨fx, 2, none⟩ (.int .i64 yc) = w10 at *
        have hT := picks_is sb g o n cap bs (at_ + 1 + 1 + 1) w10 HG10.out.bs (HR.out.kept HK10.out (fun _ _ => id)) HO.out hgs hn1 (by omega) (by omega)
        have HT := Lib.hid hT
        clear hT
        have hnsh : Hid (¬ bs.length < at_ + 3) := Lib.hid (by rw [HL.out]; omega)
        go_wp2_with fail
        refine HT.out.mono ?_
        rintro e w11 ⟨k11, ⟨hbad, rfl⟩ | ⟨hgood, v, rfl, hsv, hb11⟩⟩
        · obtain ⟨x1, x2, x3⟩ := HG10.out.off k11
          have HW : Hid (wrongP bs = (at_ + 3 + (Pick.wrongL (bs.drop (at_ + 3))).1, (Pick.wrongL (bs.drop (at_ + 3))).2)) := Lib.hid (wrong_scan hgd.out h9.out (by rw [HCNT.out, ← hscan.out, show cnt - t = (cnt - t - 1) + 1 by omega, scan_wrong hnsh.out hbad]) hbad)
          exact leave_panic rfl rfl rfl x1 x2 x3 (by omega) (by omega) (by omega) (fun w' hk => ⟨(HS.out _ _ HK10.out k11).trans hk (fun q hq h => by rcases h with h | h | h <;> omega), .inl ⟨by rw [HW.out]; exact hbad, by rw [HW.out]; rfl⟩⟩)
        obtain ⟨N, hN⟩ : ∃ N, beN ((bs.drop (at_ + 1 + 1 + 1)).take 2) = N := ⟨_, rfl⟩
        obtain ⟨zs, hzs⟩ : ∃ zs, ((bs.drop (at_ + 1 + 1 + 1)).drop 2).take N = zs := ⟨_, rfl⟩
        rw [hN, hzs] at hsv
        rw [hN] at hb11
        rw [hN, hzs] at hgood
        have hdl : (bs.drop (at_ + 1 + 1 + 1)).length = n - (at_ + 1 + 1 + 1) := by rw [List.length_drop, HL.out]
        have hN2 : 2 + N ≤ n - (at_ + 1 + 1 + 1) := by have := hgood.2.2.2.2.1; omega
        have HGD := Lib.hid hgood
        have HZS := Lib.hid hzs
        have HNN := Lib.hid hN
        have hvl := fun q hq => (hsv.lt q hq).1
        have hz10 : fx < w10.heap.size := HX10.out.lt
        have HG11 := Lib.hid (HG10.out.take k11 hb11)
        have HK11 := Lib.hid (HS.out _ _ HK10.out k11)
        have HX11 := Lib.hid (HX10.out.kept k11 (fun e => by have : fx = sb := e; omega))
        have HV11 := Lib.hid hsv
        have HVL := Lib.hid (fun q hq => Nat.lt_of_lt_of_le hz10 (hvl q hq))
        obtain ⟨A, C, hv⟩ : ∃ A C, v = .slice A N C := by
          obtain ⟨_, A, C, h1, _⟩ := hsv.rd
          exact ⟨A, C, h1⟩
        clear k11 hb11 HT HG10 HK10 HX10 hgood hzs hN hdl hsv hvl
        subst hv
        have q0 : w11.cell? ⟨fx, 3, none⟩ = some (.slice none 0 0) := HX11.out.cell 3
        have q1 : w11.frozen? ⟨fx, 3, none⟩ = false := HX11.out.frozen 3
        have b3 : Box (w11.setCell ⟨fx, 3, none⟩ (.slice A N C)) fx #[.int .i64 ya, .int .i64 yb, .int .i64 yc, .slice A N C] 48 := bset HX11.out 3 _
        have k3 : Kept (Only fx) w11 (w11.setCell ⟨fx, 3, none⟩ (.slice A N C)) := (Kept.refl _ w11).setCell (p := ⟨fx, 3, none⟩) (fun _ => by exact rfl) _
        have HG12 := Lib.hid (HG11.out.fresh k3 hsx HSG.out HRW.out)
        have HK12 := Lib.hid (HK11.out.trans k3 (fun q hq e => by have : q = fx := e; omega))
        have HV12 := Lib.hid (HV11.out.kept k3 (fun q hq e => by have h1 := HVL.out q hq; have h2 : q = fx := e; omega))
        have HX12 := Lib.hid b3
        clear b3 k3 HG11 HK11 HX11 HV11
        go_upto_region 11 with fail
        clear q0 q1
        generalize w11.setCell ⟨fx, 3, none⟩ (.slice A N C) = w12 at *
        have y0 : w12.cell? ⟨fx, 0, none⟩ = some (.int .i64 ya) := HX12.out.cell 0
        have y1 : w12.cell? ⟨fx, 1, none⟩ = some (.int .i64 yb) := HX12.out.cell 1
        have y2 : w12.cell? ⟨fx, 2, none⟩ = some (.int .i64 yc) := HX12.out.cell 2
        have y3 : w12.cell? ⟨fx, 3, none⟩ = some (.slice A N C) := HX12.out.cell 3
        have r2 : w12.cell? ⟨w.heap.size, 2, none⟩ = some fv := HG12.out.br.cell 2
        have hft2 : fs.length < 256 := by have := hft.out; omega
        have hz12 : sb + 1 ≤ w12.heap.size := by have := HX12.out.lt; omega
        obtain ⟨i0, hi, hz0', hz1', hz2'⟩ := info_parts info_found
        have HSEG := Lib.hid (HG12.out.seg.kept ((Kept.refl No w12).alloc (.cells #[.int .i64 ya, .int .i64 yb, .int .i64 yc, .slice A N C] 48)) (fun _ _ => id))
        have hcn := cells_new w12 #[.int .i64 ya, .int .i64 yb, .int .i64 yc, .slice A N C] 48
        have HCN := Lib.hid hcn
        have hzA : sb + 1 ≤ (w12.alloc (.cells #[.int .i64 ya, .int .i64 yb, .int .i64 yc, .slice A N C] 48)).heap.size := by rw [World.size_alloc]; omega
        have H16 : Hid (sb + 1 ≤ (w12.alloc (.cells #[.int .i64 ya, .int .i64 yb, .int .i64 yc, .slice A N C] 48)).heap.size) := Lib.hid hzA
        clear hcn hzA
        go_wp2_with (at_builtin; refine wpList_append_seg rfl _ _ 22 rfl (sb + 1) 48 i0 _ 4 48 Tryz.underlying22 hi hz0' hz1' hz2' rfl (by decide) _ _ _ rfl HSEG.out ⟨_, 0, none⟩ 1 1 [.int .i64 ya, .int .i64 yb, .int .i64 yc, .slice A N C] rfl rfl HCN.out (by intro u hu; simp only [List.mem_cons, List.not_mem_nil, or_false] at hu; rcases hu with rfl | rfl | rfl | rfl <;> rfl) (by unfold maxLen; omega) (by omega) H16.out ?_)
        intro v13 w13 hs13 hg13 hb13
        have hkA : Kept (fun q => fv.ownBlock = some q) w12 w13 := ((Kept.refl _ w12).alloc _).grown hg13 (fun q _ h => h)
        have hseg := HG12.out.seg
        have hrb : ¬ fv.ownBlock = some w.heap.size := fun e => by have := (hseg.lt _ e).1; omega
        have br13 := HG12.out.br.kept hkA hrb
        have hks : Kept (Only w.heap.size) w13 (w13.setCell ⟨w.heap.size, 2, none⟩ v13) := (Kept.refl _ w13).setCell (p := ⟨w.heap.size, 2, none⟩) (fun _ => by exact rfl) _
        have z2 : w13.cell? ⟨w.heap.size, 2, none⟩ = some fv := br13.cell 2
        have z3 : w13.frozen? ⟨w.heap.size, 2, none⟩ = false := br13.frozen 2
        have HGN : Hid (GS (w13.setCell ⟨w.heap.size, 2, none⟩ v13) w.heap.size sb g o n cap xv xe v13 (at_ + 1 + 1 + 1 + (2 + N)) (fs ++ [⟨ya, yb, yc, .slice A N C, N, zs⟩])) := Lib.hid (by
          refine ⟨bset br13 2 v13, ?_, ?_, ?_, hsz1, ?_, ?_⟩
          · exact (HG12.out.ba.kept hkA (fun e => by have := (hseg.lt _ e).1; omega)).kept hks (fun e => by have : w.heap.size + 1 = w.heap.size := e; omega)
          · exact (HG12.out.be.kept hkA (fun e => by have := (hseg.lt _ e).1; omega)).kept hks (fun e => by have : w.heap.size + 1 + 1 = w.heap.size := e; omega)
          · exact (HG12.out.bs.kept hkA (fun e => by have := (hseg.lt _ e).1; omega)).kept hks (fun e => by have : sb = w.heap.size := e; omega)
          · rw [List.length_append, foundV_app]
            exact hs13.kept hks (fun q hq e => by have h1 := (hs13.lt q hq).1; have h2 : q = w.heap.size := e; omega)
          · intro f hf
            rcases List.mem_append.1 hf with hf | hf
            · have hr := HG12.out.row f hf
              exact (hr.kept hkA (fun q hq e => seg_ne hr hseg (by decide) q hq e)).kept hks (fun q hq e => by have h1 := (hr.lt q hq).1; have h2 : q = w.heap.size := e; omega)
            · rw [List.mem_singleton] at hf
              subst hf
              have hr := HV12.out
              exact ((hr.kept hkA (fun q hq e => seg_ne hr hseg (by decide) q hq e)).kept hks (fun q hq e => by have h1 := HVL.out q hq; have h2 : q = w.heap.size := e; omega)).mono (by omega))
        have HKN := Lib.hid ((HK12.out.trans hkA (fun q hq e => by have := (hseg.lt _ e).1; omega)).trans hks (fun q hq e => by have : q = w.heap.size := e; omega))
        have hwl : Hid (Pick.wrongL (bs.drop (at_ + 3)) = (2 + N, 0)) := Lib.hid HGD.out.2.1
        have hgot' : Hid ((fs ++ [(⟨ya, yb, yc, .slice A N C, N, zs⟩ : FoundI)]).map keyF ++ gotF bs (at_ + 1 + 1 + 1 + (2 + N)) (cnt - (t + 1)) = gotF bs 9 cnt) := Lib.hid (by
          rw [← hgot.out, show cnt - t = (cnt - (t + 1)) + 1 by omega, gotF, hwl.out, List.map_append, List.append_assoc]
          congr 1
          show keyF _ :: _ = _
          congr 1
          rw [keyF, ← HYA.out, ← HYB.out, ← HYC.out, ← HZS.out, ← HNN.out])
        have hscan' : Hid (scanF bs (at_ + 1 + 1 + 1 + (2 + N)) (cnt - (t + 1)) = scanF bs 9 cnt) := Lib.hid (by
          rw [← hscan.out, show cnt - t = (cnt - (t + 1)) + 1 by omega, scan_step hnsh.out (by rw [hwl.out]), hwl.out])
        obtain ⟨A13, C13, hv13⟩ : ∃ A C, v13 = .slice A (fs.length + 1) C := by
          obtain ⟨_, A, C, h1, _⟩ := hs13.rd
          exact ⟨A, C, h1⟩
        clear hs13 hg13 hb13 hkA hseg hrb br13 hks hi hz0' hz1' hz2' y0 y1 y2 y3 r2
        subst hv13
        go_wp2_with fail
        go_roundw
        case rel => exact ⟨t + 1, at_ + 1 + 1 + 1 + (2 + N), _, _, by omega, by go_num, by omega, Lib.hid (by rw [List.length_append, hft.out]; rfl), HGN, hgot', hscan', HKN⟩
        case measure => simp [intOf]; omega
      · obtain rfl : t = cnt := by omega
        have hsc := hscan.out
        rw [Nat.sub_self, scanF] at hsc
        have hgo := hgot.out
        rw [Nat.sub_self, gotF, List.append_nil] at hgo
        have HSC := Lib.hid hsc
        have HGO := Lib.hid hgo
        have b1 : wr.cell? ⟨sb, 1, none⟩ = some (.int .i64 at_) := hG.out.bs.cell 1
        clear hscan hgot hsc hgo
        by_cases hlast : at_ < n
        · have HW : Hid (wrongP bs = (at_, 1)) := Lib.hid (wrong_more hgd.out h9.out (by rw [HCNT.out, ← HSC.out]) (by rw [HL.out]; exact hlast))
          go_upto_region 14 with fail
          have X1 : ∀ q : KS (R3 w.heap.size (w.heap.size + 1) (w.heap.size + 1 + 1)) wr.drew, q.w.cell? ⟨sb, 1, none⟩ = some (.int .i64 at_) := KS.old (w := wr.drew) b1 hG.out.bs.lt (fun h => by rcases h with h | h | h <;> have : sb = _ := h <;> omega)
          obtain ⟨t1, t2, t3, t4, tk, tr, ta, te⟩ := three (W := wr.drew) (.int .i64 0) (.int .i64 0) (.slice none 0 0) (.int .i64 at_) (.int .i64 1) hG.out.br hG.out.ba hG.out.be
          have HBR : Hid (Box wr.drew w.heap.size #[.int .i64 xv, .int .i64 xe, fv] 24) := Lib.hid hG.out.br
          have TK := Lib.hid (hK.out.drew.trans tk (fun q hq h => by rcases h with h | h | h <;> omega))
          have TR := Lib.hid tr
          have TA := Lib.hid ta
          have TE := Lib.hid te
          clear tk tr ta te hK hG b1
          refine wp_region_dynS (R3 w.heap.size (w.heap.size + 1) (w.heap.size + 1 + 1)) ([0, 1] ++ 2 :: ([3, 4] ++ 5 :: 6 :: 7 :: [])) (by kernel_rfl) (by kernel_rfl) ?_
          refine dynS_reads _ _ (by kernel_rfl) ?_
          simp only [sel, List.filterMap_cons, List.filterMap_nil, List.getElem?_cons_succ, List.getElem?_cons_zero]
          repeat (show wpQuiet _ _ _ _ (_ :: _) _; go_big_quiet_step (fail))
          refine wpQuiet_nil ?_
          refine dynS_ptr _ ⟨sb, 0, none⟩ rfl rfl rfl rfl ?_
          simp only [Act.put, List.setIfInBounds_toArray, List.set]
          refine dynS_reads _ _ (by kernel_rfl) ?_
          simp only [sel, List.filterMap_cons, List.filterMap_nil, List.getElem?_cons_succ, List.getElem?_cons_zero]
          repeat (show wpQuiet _ _ _ _ (_ :: _) _; go_big_quiet_step (fail))
          refine wpQuiet_nil ?_
          clear X1
          refine dynS_act rfl rfl rfl ?_
          refine callW_store_row 24 _ _ rfl w.heap.size #[.int .i64 0, .int .i64 0, .slice none 0 0] rfl rfl 24 _ HBR.out (by kernel_rfl) rfl (by kernel_rfl) ?_
          refine ⟨(row_only _ _ _).mono (fun q _ h => .inl h), ?_⟩
          simp only [Act.put]
          refine dynS_act rfl rfl rfl ?_
          unfold callW
          go_simp
          refine ⟨(Kept.refl _ _).setCell (fun _ => .inr (.inl rfl)) _, ?_⟩
          refine dynS_act rfl rfl rfl ?_
          unfold callW
          go_simp
          refine ⟨(Kept.refl _ _).setCell (fun _ => .inr (.inr rfl)) _, ?_⟩
          refine dynS_nil ?_
          clear t1 t2 t3 t4 HBR
          generalize ((wr.drew.setRow w.heap.size #[.int .i64 0, .int .i64 0, .slice none 0 0]).setCell ⟨w.heap.size + 1, 0, none⟩ (.int .i64 at_)).setCell ⟨w.heap.size + 1 + 1, 0, none⟩ (.int .i64 1) = wF at *
          go_wp2_with fail
          exact leave_ret rfl rfl rfl TR.out TA.out TE.out (fun w' hk => ⟨TK.out.trans hk (fun _ _ f => f), .inl ⟨by rw [HW.out]; exact (by decide : (1 : Int) ≠ 0), by rw [HW.out]⟩⟩)
        · obtain rfl : at_ = n := by omega
          have HW : Hid (wrongP bs = (at_, 0)) := Lib.hid (wrong_none hgd.out h9.out (by rw [HCNT.out, ← HSC.out]) (by rw [HL.out]; omega))
          obtain ⟨A, C, hv⟩ : ∃ A C, fv = .slice A fs.length C := by
            obtain ⟨_, A, C, h1, _⟩ := hG.out.seg.rd
            exact ⟨A, C, h1⟩
          subst hv
          have hck := papercheck_is xv xe A fs.length C fs wr hG.out.fr
          have HCK := Lib.hid hck
          have r0 : wr.cell? ⟨w.heap.size, 0, none⟩ = some (.int .i64 xv) := hG.out.br.cell 0
          have r1 : wr.cell? ⟨w.heap.size, 1, none⟩ = some (.int .i64 xe) := hG.out.br.cell 1
          have r2 : wr.cell? ⟨w.heap.size, 2, none⟩ = some (.slice A fs.length C) := hG.out.br.cell 2
          clear hck
          go_wp2_with fail
          refine HCK.out.mono ?_
          rintro e w15 ⟨rfl, k15⟩
          have HG15 := Lib.hid (hG.out.kept k15)
          have HK15 := Lib.hid (hK.out.trans k15 (fun _ _ f => f))
          clear k15 r0 r1 r2 b1 hG hK HCK
          have hvd : Hid (vdG bs = xv) := Lib.hid (by rw [vdG, HXV.out])
          have hed : Hid (edG bs = xe) := Lib.hid (by rw [edG, HXE.out])
          unfold chkR
          cases hok : okR xv xe fs with
          | false =>
            have HOK := Lib.hid hok
            clear hok
            simp only [Bool.false_eq_true, if_false]
            obtain ⟨t1, t2, t3, t4, tk, tr, ta, te⟩ := three (.int .i64 0) (.int .i64 0) (.slice none 0 0) (.int .i64 0) (.int .i64 3) HG15.out.br HG15.out.ba HG15.out.be
            have TK := Lib.hid (HK15.out.trans tk (fun q hq h => by rcases h with h | h | h <;> omega))
            have TR := Lib.hid tr
            have TA := Lib.hid ta
            have TE := Lib.hid te
            have HBR := Lib.hid HG15.out.br
            clear tk tr ta te
            go_wp2_with (refine wpList_store_rowTo rfl 24 _ _ rfl rfl w.heap.size #[.int .i64 0, .int .i64 0, .slice none 0 0] (by kernel_rfl) (by kernel_rfl) 24 _ HBR.out (by kernel_rfl) (by kernel_rfl) (by kernel_rfl) ?_)
            exact leave_ret rfl rfl rfl TR.out TA.out TE.out (fun w' hk => ⟨TK.out.trans hk (fun _ _ f => f), .inr ⟨by rw [HW.out], by rw [HW.out, HL.out], fs, by rw [HGO.out, HCNT.out], .inl ⟨by rw [hvd.out, hed.out]; exact HOK.out, rfl⟩⟩⟩)
          | true =>
            have HOK := Lib.hid hok
            clear hok
            simp only [if_true]
            go_upto_region 17 with fail
            have hsbl := HG15.out.bs.lt
            have X0 : ∀ q : KS (fun q => q = w.heap.size + 1 ∨ q = w.heap.size + 1 + 1) w15.drew, q.w.cell? ⟨w.heap.size, 0, none⟩ = some (.int .i64 xv) := KS.old (w := w15.drew) (HG15.out.br.cell 0) HG15.out.br.lt (fun h => by rcases h with h | h <;> have : w.heap.size = _ := h <;> omega)
            have X1 : ∀ q : KS (fun q => q = w.heap.size + 1 ∨ q = w.heap.size + 1 + 1) w15.drew, q.w.cell? ⟨w.heap.size, 1, none⟩ = some (.int .i64 xe) := KS.old (w := w15.drew) (HG15.out.br.cell 1) HG15.out.br.lt (fun h => by rcases h with h | h <;> have : w.heap.size = _ := h <;> omega)
            have X2 : ∀ q : KS (fun q => q = w.heap.size + 1 ∨ q = w.heap.size + 1 + 1) w15.drew, q.w.cell? ⟨w.heap.size, 2, none⟩ = some (.slice A fs.length C) := KS.old (w := w15.drew) (HG15.out.br.cell 2) HG15.out.br.lt (fun h => by rcases h with h | h <;> have : w.heap.size = _ := h <;> omega)
            have X3 : ∀ q : KS (fun q => q = w.heap.size + 1 ∨ q = w.heap.size + 1 + 1) w15.drew, q.w.cell? ⟨sb, 1, none⟩ = some (.int .i64 at_) := KS.old (w := w15.drew) (HG15.out.bs.cell 1) hsbl (fun h => by rcases h with h | h <;> have : sb = _ := h <;> omega)
            obtain ⟨t1, t2, t3, t4, tk, tr, ta, te⟩ := three (W := w15.drew) (.int .i64 xv) (.int .i64 xe) (.slice A fs.length C) (.int .i64 at_) (.int .i64 0) HG15.out.br HG15.out.ba HG15.out.be
            have HBR : Hid (Box w15.drew w.heap.size #[.int .i64 xv, .int .i64 xe, .slice A fs.length C] 24) := Lib.hid HG15.out.br
            have TK := Lib.hid (HK15.out.drew.trans tk (fun q hq h => by rcases h with h | h | h <;> omega))
            have TR := Lib.hid tr
            have TA := Lib.hid ta
            have TE := Lib.hid te
            have TF : Hid (FR (((w15.drew.setRow w.heap.size #[.int .i64 xv, .int .i64 xe, .slice A fs.length C]).setCell ⟨w.heap.size + 1, 0, none⟩ (.int .i64 at_)).setCell ⟨w.heap.size + 1 + 1, 0, none⟩ (.int .i64 0)) (.slice A fs.length C) fs) := Lib.hid
              ⟨(Seg.kept (w := w15.drew) HG15.out.seg tk (fun q hq h => by have h1 := (HG15.out.seg.lt q hq).1; rcases h with h | h | h <;> omega)).rd,
               fun f hf => (Seg.kept (w := w15.drew) (HG15.out.row f hf) tk (fun q hq h => by have h1 := ((HG15.out.row f hf).lt q hq).1; rcases h with h | h | h <;> omega)).rd⟩
            clear tk tr ta te HK15 HG15
            refine wp_region_dynS (fun q => q = w.heap.size + 1 ∨ q = w.heap.size + 1 + 1) ([0, 1] ++ 2 :: ([3, 4] ++ 5 :: 6 :: 7 :: [])) (by kernel_rfl) (by kernel_rfl) ?_
            refine dynS_reads _ _ (by kernel_rfl) ?_
            simp only [sel, List.filterMap_cons, List.filterMap_nil, List.getElem?_cons_succ, List.getElem?_cons_zero]
            repeat (show wpQuiet _ _ _ _ (_ :: _) _; go_big_quiet_step (fail))
            refine wpQuiet_nil ?_
            refine dynS_ptr _ ⟨sb, 0, none⟩ rfl rfl rfl rfl ?_
            simp only [Act.put, List.setIfInBounds_toArray, List.set]
            refine dynS_reads _ _ (by kernel_rfl) ?_
            simp only [sel, List.filterMap_cons, List.filterMap_nil, List.getElem?_cons_succ, List.getElem?_cons_zero]
            repeat (show wpQuiet _ _ _ _ (_ :: _) _; go_big_quiet_step (fail))
            refine wpQuiet_nil ?_
            clear X0 X1 X2 X3
            refine dynS_act rfl rfl rfl ?_
            refine callW_store_row 24 _ _ rfl w.heap.size #[.int .i64 xv, .int .i64 xe, .slice A fs.length C] rfl rfl 24 _ HBR.out (by kernel_rfl) rfl (by kernel_rfl) ?_
            refine ⟨(row_same HBR.out).mono (fun q _ h => h.elim), ?_⟩
            simp only [Act.put]
            refine dynS_act rfl rfl rfl ?_
            unfold callW
            go_simp
            refine ⟨(Kept.refl _ _).setCell (fun _ => .inl rfl) _, ?_⟩
            refine dynS_act rfl rfl rfl ?_
            unfold callW
            go_simp
            refine ⟨(Kept.refl _ _).setCell (fun _ => .inr rfl) _, ?_⟩
            refine dynS_nil ?_
            clear t1 t2 t3 t4 HBR
            generalize ((w15.drew.setRow w.heap.size #[.int .i64 xv, .int .i64 xe, .slice A fs.length C]).setCell ⟨w.heap.size + 1, 0, none⟩ (.int .i64 at_)).setCell ⟨w.heap.size + 1 + 1, 0, none⟩ (.int .i64 0) = wF at *
            go_wp2_with fail
            exact leave_ret rfl rfl rfl TR.out TA.out TE.out (fun w' hk => ⟨TK.out.trans hk (fun _ _ f => f), .inr ⟨by rw [HW.out], by rw [HW.out, HL.out], fs, by rw [HGO.out, HCNT.out], .inr ⟨by rw [hvd.out, hed.out]; exact HOK.out, A, C, by rw [hvd.out, hed.out, HL.out], TF.out.kept hk⟩⟩⟩)
  · have hq : (z0 != 82) = true := by rw [bne_iff_ne]; exact h82
    have HW : Hid (wrongP bs = (0, 1)) := Lib.hid (by rw [wrongP, if_pos (.inr (by rw [hgd0.out]; exact h82))])
    obtain ⟨t1, t2, t3, t4, tk, tr, ta, te⟩ := three (.int .i64 0) (.int .i64 0) (.slice none 0 0) (.int .i64 0) (.int .i64 1) HBR.out HBA.out HBE.out
    have TK := Lib.hid (HK0.out.trans tk (fun q hq h => by rcases h with h | h | h <;> omega))
    have TR := Lib.hid tr
    have TA := Lib.hid ta
    have TE := Lib.hid te
    clear h82 tk tr ta te
    go_wp2_with (refine wpList_store_rowTo rfl 24 _ _ rfl rfl w.heap.size #[.int .i64 0, .int .i64 0, .slice none 0 0] (by kernel_rfl) (by kernel_rfl) 24 _ HBR.out (by kernel_rfl) (by kernel_rfl) (by kernel_rfl) ?_)
    refine leave_ret rfl rfl rfl TR.out TA.out TE.out (fun w' hk => ⟨TK.out.trans hk (fun _ _ f => f), .inl ⟨by rw [HW.out]; exact (by decide : (1 : Int) ≠ 0), by rw [HW.out]; rfl⟩⟩)
end Go.Proofs.YtaffaliplmfagaaGreatDoor.Line
