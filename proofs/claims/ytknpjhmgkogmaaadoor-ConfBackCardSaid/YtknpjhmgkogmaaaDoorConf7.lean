/-
  Package conf: a config and an ask, out of words.
-/
import Derived.Test.YtknpjhmgkogmaaaDoorConf4
import Derived.Test.YtknpjhmgkogmaaaDoorWords2
import Derived.Test.YtknpjhmgkogmaaaDoorNumB
import Derived.Test.YtknpjhmgkogmaaaDoorStore
import Derived.Laws.Cover3
set_option linter.unusedVariables false
namespace Go.Proofs.YtknpjhmgkogmaaaDoor.Line
open Go.RowKit Go.Sort Go.Proofs.YtknpjhmgkogmaaaDoor.Own Go.Proofs.YtknpjhmgkogmaaaDoor.Conv Go.Proofs.YtknpjhmgkogmaaaDoor.Calm Go.Proofs.YtknpjhmgkogmaaaDoor.Oct

theorem results_two {P : Program} {fn : Func} {p q u : Tmp} {ty1 ty2 : TypeId} (h : fn.results = #[.cell p ty1, .cell q ty2, .tmp u]) (tmps : Array Value) (w : World) (g1 g2 : Nat) (t1 t2 : TypeId) (cs1 cs2 : Array Value) (d1 d2 : TypeDesc)
    (hp : tmps.getD p undef = .pointer (some ⟨g1, 0, none⟩)) (hq : tmps.getD q undef = .pointer (some ⟨g2, 0, none⟩)) (hg1 : Box w g1 cs1 t1) (hg2 : Box w g2 cs2 t2)
    (hu1 : P.underlying ty1 = some d1) (hd1 : (match d1 with | .struct _ | .array _ _ => true | _ => false) = true) (hi1 : (P.info? ty1).map (·.size) = some cs1.size)
    (hu2 : P.underlying ty2 = some d2) (hd2 : (match d2 with | .struct _ | .array _ _ => true | _ => false) = true) (hi2 : (P.info? ty2).map (·.size) = some cs2.size) :
    (results fn tmps).run P w = .ok (.tuple #[.agg cs1, .agg cs2, tmps.getD u undef]) w := by
  have hp' : tmps[p]?.getD undef = .pointer (some ⟨g1, 0, none⟩) := by simpa using hp
  have hq' : tmps[q]?.getD undef = .pointer (some ⟨g2, 0, none⟩) := by simpa using hq
  simp [results, h, hp', hq', asAddr, Sem.run_bind, Result.andThen, run_loadVar_row w g1 t1 ty1 cs1 (0, 0) d1 hg1 hu1 hd1 hi1, run_loadVar_row w g2 t2 ty2 cs2 (0, 0) d2 hg2 hu2 hd2 hi2]

theorem pieces_le (c : UInt8) : ∀ (l : List UInt8), ∀ p ∈ pieces c l, p.length ≤ l.length
  | [], p, h => by simp [pieces] at h; simp [h]
  | b :: r, p, h => by
    have ih := pieces_le c r
    unfold pieces at h
    split at h
    · rcases List.mem_cons.1 h with rfl | h
      · simp
      · have := ih p h; simp; omega
    · split at h
      · rw [List.mem_singleton.1 h]; simp
      · rename_i q ps e
        rw [e] at ih
        rcases List.mem_cons.1 h with rfl | h
        · have := ih q (by simp); simp; omega
        · have := ih p (by simp [h]); simp; omega
theorem words_le {l p : List UInt8} (h : p ∈ wordsL l) : p.length ≤ l.length := pieces_le 32 l p (List.mem_filter.1 h).1
def bs (xs : List (List UInt8)) : List ByteArray := xs.map fun l => ⟨l.toArray⟩
/-- Where a word stands among names. -/
def idxL (names : List (List UInt8)) (x : List UInt8) : Int := Lib.idxOfS (bs names) ⟨x.toArray⟩
/-- The names of a field; none: it is a number. -/
def namesAt (k : Nat) : List (List UInt8) := if k = 0 then schL else if k = 1 then ordL else if k = 5 then modL else if k = 7 then endL else []
def clampN (n : Int) : Int := max (-1) (min n 16777215)
/-- A field out of a word. -/
def fieldL (k : Nat) (x : List UInt8) : Option Int :=
  if namesAt k = [] then (numberL x).map clampN else if idxL (namesAt k) x < 0 then none else some (idxL (namesAt k) x)

theorem idxFrom_bd (x : ByteArray) : ∀ (zs : List ByteArray) (i : Nat), -1 ≤ Lib.idxFromS zs x i ∧ Lib.idxFromS zs x i ≤ (i : Int) + zs.length
  | [], i => by simp [Lib.idxFromS]
  | z :: zs, i => by
    have := idxFrom_bd x zs (i + 1)
    unfold Lib.idxFromS
    split
    · simp; omega
    · simp only [List.length_cons]
      omega
theorem idxL_bd (names : List (List UInt8)) (x : List UInt8) : -1 ≤ idxL names x ∧ idxL names x ≤ names.length := by
  have := idxFrom_bd ⟨x.toArray⟩ (bs names) 0
  simpa [idxL, Lib.idxOfS, bs] using this
theorem field5_bd {x : List UInt8} {z : Int} (h : fieldL 5 x = some z) : 0 ≤ z ∧ z ≤ 3 := by
  have hb := idxL_bd (namesAt 5) x
  rw [fieldL, if_neg (by decide)] at h
  split at h
  · cases h
  · injection h with h
    rw [h] at hb
    have : (namesAt 5).length = 3 := rfl
    omega
theorem index_names (b : Nat) (names : List (List UInt8)) (cs : Array Value) (sx : List UInt8) (n : Nat) (hn : n = names.length) (hs : cs.toList = sv names) (hz : n ≤ 100) (w : World) (h : Box w b cs 9) :
    Calls Tryd.prog 38 #[.slice (some ⟨b, 0, none⟩) n n, .string ⟨sx.toArray⟩] w fun e w' => e = .returned (.int .i64 (idxL names sx)) ∧ w' = w := by
  subst hn
  have hl : names.length = (bs names).length := by simp [bs]
  have := Tryd.slices_Index_string b 0 names.length names.length (bs names) ⟨sx.toArray⟩ w (by omega) (by omega) (fun j hj => by
    rw [Nat.zero_add, Box.cell h, ← Array.getElem?_toList, hs]
    have hj' : j < names.length := by omega
    simp [sv, bs, hj'])
  rw [hl, List.take_length, ← hl] at this
  exact this

def cfg0 : Array Value := #[.int .i64 0, .int .i64 0, .int .i64 0, .int .i64 0, .int .i64 0]
def ask0 : Array Value := #[.int .i64 0, .int .i64 0, .bool false]
/-- What the parsing of words hands back. -/
def ParsePost (w : World) (W : List (List UInt8)) (e : Ending) (w' : World) : Prop := Kept No w w' ∧
  ((W.length ≠ 8 ∨ ∃ k, k < 8 ∧ fieldL k (W.getD k []) = none) ∧ e = .returned (.tuple #[.agg cfg0, .agg ask0, .int .i64 1]) ∨
   (W.length = 8 ∧ ∃ f0 f1 f2 f3 f4 f5 f6 f7 : Int, (∀ k, k < 8 → fieldL k (W.getD k []) = some ([f0, f1, f2, f3, f4, f5, f6, f7].getD k 0)) ∧
     ((isCfg f0 f1 f2 f3 f4 && isAsk (f5 + 1) f6) = false ∧ e = .returned (.tuple #[.agg cfg0, .agg ask0, .int .i64 3]) ∨
      (isCfg f0 f1 f2 f3 f4 && isAsk (f5 + 1) f6) = true ∧ e = .returned (.tuple #[.agg #[.int .i64 f0, .int .i64 f1, .int .i64 f2, .int .i64 f3, .int .i64 f4], .agg #[.int .i64 (f5 + 1), .int .i64 f6, .bool (f7 == 1)], .int .i64 0]))))

theorem eight {k : Nat} (h : k < 8) : k = 0 ∨ k = 1 ∨ k = 2 ∨ k = 3 ∨ k = 4 ∨ k = 5 ∨ k = 6 ∨ k = 7 := by omega
/-- The names of the fields, as they lie. -/
def nmV (b0 b1 b5 b7 k : Nat) : Value := if k = 0 then .slice (some ⟨b0, 0, none⟩) 4 4 else if k = 1 then .slice (some ⟨b1, 0, none⟩) 2 2 else if k = 5 then .slice (some ⟨b5, 0, none⟩) 3 3 else if k = 7 then .slice (some ⟨b7, 0, none⟩) 2 2 else .slice none 0 0
theorem nm_at (b0 b1 b5 b7 k : Nat) (h : k < 8) (w : World) : (Instr.index 69 (.agg #[.slice (some ⟨b0, 0, none⟩) 4 4, .slice (some ⟨b1, 0, none⟩) 2 2, .slice none 0 0, .slice none 0 0, .slice none 0 0, .slice (some ⟨b5, 0, none⟩) 3 3, .slice none 0 0, .slice (some ⟨b7, 0, none⟩) 2 2]) (.int .i64 k)).run Tryd.prog w = .ok (nmV b0 b1 b5 b7 k) w := by
  rcases eight h with rfl | rfl | rfl | rfl | rfl | rfl | rfl | rfl <;> kernel_rfl
theorem nm_cases {w : World} {b0 b1 b5 b7 : Nat} (h0 : Box w b0 schS 9) (h1 : Box w b1 ordS 9) (h5 : Box w b5 modS 9) (h7 : Box w b7 endS 9) (k : Nat) (h : k < 8) :
    (namesAt k = [] ∧ nmV b0 b1 b5 b7 k = .slice none 0 0) ∨ ∃ bb m cs, nmV b0 b1 b5 b7 k = .slice (some ⟨bb, 0, none⟩) m m ∧ namesAt k ≠ [] ∧ m = (namesAt k).length ∧ m ≤ 100 ∧ cs.toList = sv (namesAt k) ∧ Box w bb cs 9 := by
  rcases eight h with rfl | rfl | rfl | rfl | rfl | rfl | rfl | rfl
  · exact .inr ⟨b0, 4, schS, rfl, by decide, rfl, by decide, rfl, h0⟩
  · exact .inr ⟨b1, 2, ordS, rfl, by decide, rfl, by decide, rfl, h1⟩
  · exact .inl ⟨rfl, rfl⟩
  · exact .inl ⟨rfl, rfl⟩
  · exact .inl ⟨rfl, rfl⟩
  · exact .inr ⟨b5, 3, modS, rfl, by decide, rfl, by decide, rfl, h5⟩
  · exact .inl ⟨rfl, rfl⟩
  · exact .inr ⟨b7, 2, endS, rfl, by decide, rfl, by decide, rfl, h7⟩
theorem vals_set (ls : List Int) (k : Nat) (z : Int) : (vals ls).toArray.setIfInBounds k (.int .i64 z) = (vals (ls.set k z)).toArray := by
  simp [vals, List.map_set]
theorem vals_cell {w : World} {b : Nat} {ls : List Int} {t : TypeId} (h : Box w b (vals ls).toArray t) (k : Nat) (hk : k < ls.length) : w.cell? ⟨b, k, none⟩ = some (.int .i64 (ls.getD k 0)) := by
  rw [h.cell]
  simp [vals, hk]

theorem Box.set_other {w : World} {g b : Nat} {cs : Array Value} {t : TypeId} (h : Box w g cs t) (hb : b ≠ g) (i : Nat) (u : Value) : Box (w.setCell ⟨b, i, none⟩ u) g cs t := by
  unfold Box at h ⊢
  show (w.heap.modify b _)[g]? = _
  rw [Array.getElem?_modify, if_neg hb]
  exact h
theorem set_facts {ls : List Int} {W : List (List UInt8)} {k : Nat} {x : List UInt8} {z : Int} (h : ls.length = 8 ∧ ∀ j, j < k → fieldL j (W.getD j []) = some (ls.getD j 0)) (hk : k < 8) (hx : W.getD k [] = x) (hz : fieldL k x = some z) :
    (ls.set k z).length = 8 ∧ ∀ j, j < k + 1 → fieldL j (W.getD j []) = some ((ls.set k z).getD j 0) := by
  refine ⟨by rw [List.length_set]; exact h.1, fun j hj => ?_⟩
  by_cases hjk : j = k
  · subst hjk
    rw [hx, hz, List.getD_eq_getElem?_getD, List.getElem?_set, if_pos rfl, if_pos (by omega)]
    rfl
  · rw [h.2 j (by omega), List.getD_eq_getElem?_getD, List.getD_eq_getElem?_getD, List.getElem?_set, if_neg (fun e => hjk e.symm)]
theorem rows_two {w w1 : World} {b : Nat} {cs ds : Array Value} {tc ta : TypeId} (hx : Box w1 b cs tc) (hy : Box w1 (b + 1) ds ta) (hk : Kept No w w1) (hb : w.heap.size ≤ b) (cs' ds' : Array Value) :
    Box (w1.setRow b cs') (b + 1) ds ta ∧ Box ((w1.setRow b cs').setRow (b + 1) ds') b cs' tc ∧ Box ((w1.setRow b cs').setRow (b + 1) ds') (b + 1) ds' ta ∧ Kept No w ((w1.setRow b cs').setRow (b + 1) ds') := by
  have h1 := Box.row_other (cs := cs') hy (g := b) (by omega)
  exact ⟨h1, Box.row_other (Box.row hx) (by omega), Box.row h1, row_kept (row_kept hk hb _) (by omega) _⟩

set_option maxRecDepth 100000 in
set_option maxHeartbeats 4000000 in
theorem parse_is (l : List UInt8) (hl : l.length ≤ 100000) (w : World) (hT : Door.Tabs w) :
    Calls Tryd.prog 16 #[.string ⟨l.toArray⟩] w (ParsePost w (wordsL l)) := by
  have hW := words_is l hl
  have hsm : ∀ p ∈ wordsL l, p.length ≤ 1000000 := fun p hp => Nat.le_trans (words_le hp) (by omega)
  have HSM := Lib.hid hsm
  obtain ⟨s0, hs0⟩ : ∃ s : ByteArray, (⟨l.toArray⟩ : ByteArray) = s := ⟨_, rfl⟩
  rw [hs0] at hW ⊢
  generalize wordsL l = W at *
  have HW := Lib.hid hW
  have HT := Lib.hid hT
  have hx0 := (Box.new w cfg0 23).alloc (.cells ask0 25)
  have hy0 := Box.new (w.alloc (.cells cfg0 23)) ask0 25
  have hk0 : Kept No w ((w.alloc (.cells cfg0 23)).alloc (.cells ask0 25)) := ((Kept.refl _ _).alloc _).alloc _
  simp only [World.size_alloc] at hy0
  obtain ⟨w0, hw0⟩ : ∃ w0, (w.alloc (.cells cfg0 23)).alloc (.cells ask0 25) = w0 := ⟨_, rfl⟩
  rw [hw0] at hx0 hy0 hk0
  unfold cfg0 ask0 at hw0
  have HW0 := Lib.hid hw0
  clear hW hT hs0 hl hsm hw0
  go_enter Tryd.func16, Tryd.ntmps16
  go_upto_region 1 with fail
  rw [HW0.out]
  clear HW0
  go_wp2_with fail
  refine (HW.out w0).mono ?_
  rintro e w1 ⟨k1, v, rfl, hseg⟩
  have hx1 := hx0.kept k1 id
  have hy1 := hy0.kept k1 id
  have hk1 := hk0.trans k1 (fun _ _ f => f)
  clear k1 hx0 hy0 hk0 HW
  obtain ⟨_, ao, cw, rfl, hc, hm, hn, hR⟩ := hseg.rd
  unfold maxLen at hm
  by_cases h8 : W.length = 8
  · rw [h8] at hc ⊢
    obtain ⟨g, o, rfl, hg, hcell⟩ := hR (by omega)
    clear hn hR hseg
    go_upto_region 5 with fail
    have hL2 := Box.new w1 (vals [0, 0, 0, 0, 0, 0, 0, 0]).toArray 68
    have hx2 := hx1.alloc (.cells (vals [0, 0, 0, 0, 0, 0, 0, 0]).toArray 68)
    have hy2 := hy1.alloc (.cells (vals [0, 0, 0, 0, 0, 0, 0, 0]).toArray 68)
    have hk2 := hk1.alloc (.cells (vals [0, 0, 0, 0, 0, 0, 0, 0]).toArray 68)
    have kw2 : Kept No w1 (w1.alloc (.cells (vals [0, 0, 0, 0, 0, 0, 0, 0]).toArray 68)) := (Kept.refl _ _).alloc _
    have hbl : w.heap.size + 1 < w1.heap.size := hy1.lt
    obtain ⟨w2, hw2⟩ : ∃ w2, w1.alloc (.cells (vals [0, 0, 0, 0, 0, 0, 0, 0]).toArray 68) = w2 := ⟨_, rfl⟩
    rw [hw2] at hL2 hx2 hy2 hk2 kw2
    have HS2 : Hid (w2.heap.size = w1.heap.size + 1) := Lib.hid (by rw [← hw2]; simp)
    simp only [vals, List.map_cons, List.map_nil] at hw2
    rw [hw2]
    have HCELL : Hid (∀ (wr : World), Kept No w1 wr → ∀ (j : Nat) (x : List UInt8), W[j]? = some x → wr.cell? ⟨g, o + j, none⟩ = some (.string ⟨x.toArray⟩)) := Lib.hid fun wr hk j x hx => (hk.cell (p := ⟨g, o + j, none⟩) hg id).trans (hcell j _ (by simp [sv, hx]))
    obtain ⟨bl, hwl⟩ : ∃ n, w1.heap.size = n := ⟨_, rfl⟩
    rw [hwl] at hL2 hbl HS2 ⊢
    have HWL := Lib.hid hwl
    clear hx1 hy1 hk1 hw2 hcell hg hwl
    go_wp2_with fail
    refine (schemes_is _).mono ?_
    rintro e w3 ⟨b0, rfl, hb0, hl0, k3⟩
    have hx3 := hx2.kept k3 id
    have hy3 := hy2.kept k3 id
    have hL3 := hL2.kept k3 id
    have hk3 := hk2.trans k3 (fun _ _ f => f)
    have kw3 := kw2.trans k3 (fun _ _ f => f)
    have hz3 := k3.size
    clear hx2 hy2 hL2 hk2 kw2 k3
    go_wp2_with fail
    refine (orders_is _).mono ?_
    rintro e w4 ⟨b1, rfl, hb1, hl1, k4⟩
    have hx4 := hx3.kept k4 id
    have hy4 := hy3.kept k4 id
    have hL4 := hL3.kept k4 id
    have hb04 := hb0.kept k4 id
    have hk4 := hk3.trans k4 (fun _ _ f => f)
    have kw4 := kw3.trans k4 (fun _ _ f => f)
    have hz4 := k4.size
    clear hx3 hy3 hL3 hk3 kw3 k4 hb0
    go_wp2_with fail
    refine (modes_is _).mono ?_
    rintro e w5 ⟨b5, rfl, hb5, hl5, k5⟩
    have hx5 := hx4.kept k5 id
    have hy5 := hy4.kept k5 id
    have hL5 := hL4.kept k5 id
    have hb05 := hb04.kept k5 id
    have hb15 := hb1.kept k5 id
    have hk5 := hk4.trans k5 (fun _ _ f => f)
    have kw5 := kw4.trans k5 (fun _ _ f => f)
    have hz5 := k5.size
    clear hx4 hy4 hL4 hk4 kw4 k5 hb04 hb1
    go_wp2_with fail
    refine (ends_is _).mono ?_
    rintro e w6 ⟨b7, rfl, hb7, hl7, k6⟩
    have hx6 := hx5.kept k6 id
    have hy6 := hy5.kept k6 id
    have hL6 := hL5.kept k6 id
    have hb06 := hb05.kept k6 id
    have hb16 := hb15.kept k6 id
    have hb56 := hb5.kept k6 id
    have hk6 := hk5.trans k6 (fun _ _ f => f)
    have kw6 := kw5.trans k6 (fun _ _ f => f)
    clear hx5 hy5 hL5 hk5 kw5 k6 hb05 hb15 hb5
    go_wp2_with fail
    have HIX : Hid (∀ k, k < 8 → ∀ w, _) := Lib.hid (fun k hk w => nm_at b0 b1 b5 b7 k hk w)
    have HW8 := Lib.hid h8
    have hs2 : w2.heap.size = bl + 1 := HS2.out
    have hb0l := hb06.lt
    have HNE : Hid (bl ≠ b0 ∧ bl ≠ b1 ∧ bl ≠ b5 ∧ bl ≠ b7) := Lib.hid (by omega)
    clear h8 hs2 hb0l HS2 hz3 hz4 hz5 hl0 hl1 hl5 hl7
    go_loopw [25] (fun i wr => ∃ (k : Nat) (ls : List Int), k ≤ 8 ∧ i = .int .i64 k ∧ Hid (ls.length = 8 ∧ ∀ j, j < k → fieldL j (W.getD j []) = some (ls.getD j 0)) ∧ Box wr bl (vals ls).toArray 68 ∧ Box wr w.heap.size cfg0 23 ∧ Box wr (w.heap.size + 1) ask0 25 ∧ Box wr b0 schS 9 ∧ Box wr b1 ordS 9 ∧ Box wr b5 modS 9 ∧ Box wr b7 endS 9 ∧ Kept No w wr ∧ Kept No w1 wr) (fun i _ => 8 - (intOf i).toNat)
    case atStart => exact ⟨0, [0, 0, 0, 0, 0, 0, 0, 0], by omega, rfl, Lib.hid ⟨rfl, fun j hj => by omega⟩, hL6, hx6, hy6, hb06, hb16, hb56, hb7, hk6, kw6⟩
    case round =>
      obtain ⟨k, ls, hk, rfl, HF, hL, hx, hy, h0, h1, h5, h7, hK, hKw⟩ := hrel
      by_cases hlt : k < 8
      · have i0 : (0 : Int) ≤ (k : Int) := by omega
        have i1 : (k : Int) < 8 := by omega
        have hix := HIX.out k hlt
        obtain ⟨x, hxk⟩ : ∃ x, W[k]? = some x := ⟨_, List.getElem?_eq_getElem (by have := HW8.out; omega)⟩
        have c0 := HCELL.out wr hKw k x hxk
        have hgx : W.getD k [] = x := by rw [List.getD_eq_getElem?_getD, hxk]; rfl
        have hxl := HSM.out x (List.mem_of_getElem? hxk)
        have c1 := vals_cell hL k (by have := HF.out.1; omega)
        have f1 := hL.frozen k
        have HGX := Lib.hid hgx
        generalize ls.getD k 0 = z0 at c1
        clear hgx hxk
        rcases nm_cases h0 h1 h5 h7 k hlt with ⟨hnm, hv⟩ | ⟨bb, m, cs, hv, hnm, hml, hm100, hcs, hbb⟩
        · rw [hv] at hix
          have HN := number_is x hxl wr (HT.out.kept hK)
          have hfl : fieldL k x = (numberL x).map clampN := by rw [fieldL, if_pos hnm]
          have HFL := Lib.hid hfl
          clear hfl hnm hv
          cases hnum : numberL x with
          | none =>
            rw [hnum] at HN
            simp only [Option.getD_none, Option.isSome_none] at HN
            have HN2 := Lib.hid HN
            have HNU := Lib.hid hnum
            clear HN hnum
            go_wp2_with fail
            refine HN2.out.mono ?_
            rintro e w9 ⟨rfl, k9⟩
            have hx9 := hx.kept k9 id
            have hy9 := hy.kept k9 id
            have hK9 := hK.trans k9 (fun _ _ f => f)
            clear hix c0 c1 f1 hL hx hy hK h0 h1 h5 h7 hKw k9
            obtain ⟨p1, p2, p3, p4⟩ := rows_two hx9 hy9 hK9 (Nat.le_refl _) cfg0 ask0
            go_wp2_with (first
              | refine wpList_store_rowTo rfl 23 _ _ rfl rfl w.heap.size cfg0 (by kernel_rfl) (by kernel_rfl) 23 _ hx9 (by kernel_rfl) (by kernel_rfl) (by kernel_rfl) ?_
              | refine wpList_store_rowTo rfl 25 _ _ rfl rfl (w.heap.size + 1) ask0 (by kernel_rfl) (by kernel_rfl) 25 _ p1 (by kernel_rfl) (by kernel_rfl) (by kernel_rfl) ?_)
            refine bodyPost_ret (results_two rfl _ _ w.heap.size (w.heap.size + 1) 23 25 cfg0 ask0 _ _ rfl rfl p2 p3 Tryd.underlying23 rfl (by kernel_rfl) Tryd.underlying25 rfl (by kernel_rfl)) rfl ?_
            refine ⟨p4, .inl ⟨.inr ⟨k, hlt, ?_⟩, rfl⟩⟩
            rw [HGX.out, HFL.out, HNU.out]
            rfl
          | some n =>
            rw [hnum] at HN
            simp only [Option.getD_some, Option.isSome_some] at HN
            have HN2 := Lib.hid HN
            have HNU := Lib.hid hnum
            clear HN hnum
            go_wp2_with fail
            refine HN2.out.mono ?_
            rintro e w8 ⟨rfl, k8⟩
            have hx8 := hx.kept k8 id
            have hy8 := hy.kept k8 id
            have hL8 := hL.kept k8 id
            have h08 := h0.kept k8 id
            have h18 := h1.kept k8 id
            have h58 := h5.kept k8 id
            have h78 := h7.kept k8 id
            have hK8 := hK.trans k8 (fun _ _ f => f)
            have hKw8 := hKw.trans k8 (fun _ _ f => f)
            clear hix c0 c1 f1 hL hx hy hK h0 h1 h5 h7 hKw k8
            have c1 := vals_cell hL8 k (by have := HF.out.1; omega)
            have f1 := hL8.frozen k
            generalize ls.getD k 0 = z1 at c1
            go_upto_region 16 with fail
            obtain ⟨z, hz⟩ : ∃ z, max (-1) (min n 16777215) = z := ⟨_, rfl⟩
            rw [hz]
            have HZ : Hid (clampN n = z) := Lib.hid hz
            have hL9 := box_set hL8 k (.int .i64 z)
            rw [vals_set] at hL9
            have hx9 := Box.set_other hx8 (b := bl) (by omega) k (.int .i64 z)
            have hy9 := Box.set_other hy8 (b := bl) (by omega) k (.int .i64 z)
            have hK9 := hK8.setCell (p := ⟨bl, k, none⟩) (fun h => absurd h (by show ¬ bl < w.heap.size; omega)) (.int .i64 z)
            have h09 := Box.set_other h08 (b := bl) HNE.out.1 k (.int .i64 z)
            have h19 := Box.set_other h18 (b := bl) HNE.out.2.1 k (.int .i64 z)
            have h59 := Box.set_other h58 (b := bl) HNE.out.2.2.1 k (.int .i64 z)
            have h79 := Box.set_other h78 (b := bl) HNE.out.2.2.2 k (.int .i64 z)
            have hKw9 := hKw8.setCell (p := ⟨bl, k, none⟩) (fun h => absurd h (by show ¬ bl < w1.heap.size; have := HWL.out; omega)) (.int .i64 z)
            generalize wr.setCell ⟨bl, k, none⟩ (.int .i64 z) = w9 at *
            clear hz c1 f1 hL8 hx8 hy8 hK8 h08 h18 h58 h78 hKw8
            go_wp2_with fail
            go_roundw
            case rel =>
              refine ⟨k + 1, _, by omega, by go_num, Lib.hid (set_facts HF.out hlt HGX.out ?_), hL9, hx9, hy9, h09, h19, h59, h79, hK9, hKw9⟩
              rw [HFL.out, HNU.out, Option.map_some, HZ.out]
            case measure => simp [intOf]; omega
        · rw [hv] at hix
          have HI := Lib.hid (fun w h => index_names bb (namesAt k) cs x m hml hcs hm100 w h)
          have HNM := Lib.hid hnm
          clear hml hcs hm100 hnm
          go_wp2_with fail
          refine (HI.out wr hbb).mono ?_
          rintro e wr ⟨rfl, rfl⟩
          obtain ⟨z, hz⟩ : ∃ z, idxL (namesAt k) x = z := ⟨_, rfl⟩
          rw [hz]
          have HZ := Lib.hid hz
          go_upto_region 10 with fail
          have hL9 := box_set hL k (.int .i64 z)
          rw [vals_set] at hL9
          have hx9 := Box.set_other hx (b := bl) (by omega) k (.int .i64 z)
          have hy9 := Box.set_other hy (b := bl) (by omega) k (.int .i64 z)
          have hK9 := hK.setCell (p := ⟨bl, k, none⟩) (fun h => absurd h (by show ¬ bl < w.heap.size; omega)) (.int .i64 z)
          have h09 := Box.set_other h0 (b := bl) HNE.out.1 k (.int .i64 z)
          have h19 := Box.set_other h1 (b := bl) HNE.out.2.1 k (.int .i64 z)
          have h59 := Box.set_other h5 (b := bl) HNE.out.2.2.1 k (.int .i64 z)
          have h79 := Box.set_other h7 (b := bl) HNE.out.2.2.2 k (.int .i64 z)
          have hKw9 := hKw.setCell (p := ⟨bl, k, none⟩) (fun h => absurd h (by show ¬ bl < w1.heap.size; have := HWL.out; omega)) (.int .i64 z)
          generalize wr.setCell ⟨bl, k, none⟩ (.int .i64 z) = w9 at *
          have c9 : w9.cell? ⟨bl, k, none⟩ = some (.int .i64 z) := by
            have := vals_cell hL9 k (by rw [List.length_set]; have := HF.out.1; omega)
            rw [this]
            have := HF.out.1
            simp [List.getD_eq_getElem?_getD, show k < ls.length by omega]
          clear hz hix c0 c1 f1 hL hx hy hK h0 h1 h5 h7 hKw hbb
          by_cases hneg : z < 0
          · obtain ⟨p1, p2, p3, p4⟩ := rows_two hx9 hy9 hK9 (Nat.le_refl _) cfg0 ask0
            go_wp2_with (first
              | refine wpList_store_rowTo rfl 23 _ _ rfl rfl w.heap.size cfg0 (by kernel_rfl) (by kernel_rfl) 23 _ hx9 (by kernel_rfl) (by kernel_rfl) (by kernel_rfl) ?_
              | refine wpList_store_rowTo rfl 25 _ _ rfl rfl (w.heap.size + 1) ask0 (by kernel_rfl) (by kernel_rfl) 25 _ p1 (by kernel_rfl) (by kernel_rfl) (by kernel_rfl) ?_)
            refine bodyPost_ret (results_two rfl _ _ w.heap.size (w.heap.size + 1) 23 25 cfg0 ask0 _ _ rfl rfl p2 p3 Tryd.underlying23 rfl (by kernel_rfl) Tryd.underlying25 rfl (by kernel_rfl)) rfl ?_
            refine ⟨p4, .inl ⟨.inr ⟨k, hlt, ?_⟩, rfl⟩⟩
            rw [HGX.out, fieldL, if_neg HNM.out, HZ.out, if_pos hneg]
          · go_wp2_with fail
            go_roundw
            case rel =>
              refine ⟨k + 1, _, by omega, by go_num, Lib.hid (set_facts HF.out hlt HGX.out ?_), hL9, hx9, hy9, h09, h19, h59, h79, hK9, hKw9⟩
              rw [fieldL, if_neg HNM.out, HZ.out, if_neg hneg]
            case measure => simp [intOf]; omega
      · obtain rfl : k = 8 := by omega
        obtain ⟨f0, f1, f2, f3, f4, f5, f6, f7, rfl⟩ : ∃ f0 f1 f2 f3 f4 f5 f6 f7, ls = [f0, f1, f2, f3, f4, f5, f6, f7] := by
          have := HF.out.1
          match ls, this with
          | [f0, f1, f2, f3, f4, f5, f6, f7], _ => exact ⟨f0, f1, f2, f3, f4, f5, f6, f7, rfl⟩
        have c0 : wr.cell? ⟨bl, 0, none⟩ = some (.int .i64 f0) := hL.cell 0
        have c1 : wr.cell? ⟨bl, 1, none⟩ = some (.int .i64 f1) := hL.cell 1
        have c2 : wr.cell? ⟨bl, 2, none⟩ = some (.int .i64 f2) := hL.cell 2
        have c3 : wr.cell? ⟨bl, 3, none⟩ = some (.int .i64 f3) := hL.cell 3
        have c4 : wr.cell? ⟨bl, 4, none⟩ = some (.int .i64 f4) := hL.cell 4
        have h5b := field5_bd (HF.out.2 5 (by omega))
        simp only [List.getD_cons_succ, List.getD_cons_zero] at h5b
        have E5 : IntKind.i64.wrap (f5 + 1) = f5 + 1 := by rw [IntKind.wrap_i64]; omega
        clear h0 h1 h5 h7 hKw HIX HCELL
        go_upto_region 18 with fail
        have hC7 := Box.new wr #[.int .i64 f0, .int .i64 f1, .int .i64 f2, .int .i64 f3, .int .i64 f4] 23
        have hL7 := hL.alloc (.cells #[.int .i64 f0, .int .i64 f1, .int .i64 f2, .int .i64 f3, .int .i64 f4] 23)
        have hx7 := hx.alloc (.cells #[.int .i64 f0, .int .i64 f1, .int .i64 f2, .int .i64 f3, .int .i64 f4] 23)
        have hy7 := hy.alloc (.cells #[.int .i64 f0, .int .i64 f1, .int .i64 f2, .int .i64 f3, .int .i64 f4] 23)
        have hK7 := hK.alloc (.cells #[.int .i64 f0, .int .i64 f1, .int .i64 f2, .int .i64 f3, .int .i64 f4] 23)
        have hyl := hy.lt
        generalize wr.alloc _ = w7 at *
        generalize wr.heap.size = bc at *
        clear c0 c1 c2 c3 c4 hL hx hy hK
        have c5 : w7.cell? ⟨bl, 5, none⟩ = some (.int .i64 f5) := hL7.cell 5
        have c6 : w7.cell? ⟨bl, 6, none⟩ = some (.int .i64 f6) := hL7.cell 6
        have c7 : w7.cell? ⟨bl, 7, none⟩ = some (.int .i64 f7) := hL7.cell 7
        go_upto_region 19 with fail
        obtain ⟨sb, hsb⟩ : ∃ b, (f7 == 1) = b := ⟨_, rfl⟩
        rw [hsb]
        have HSB := Lib.hid hsb
        obtain ⟨f5', hf5⟩ : ∃ n, f5 + 1 = n := ⟨_, rfl⟩
        rw [hf5] at E5 ⊢
        have HF5 := Lib.hid hf5
        have hA8 := Box.new w7 #[.int .i64 f5', .int .i64 f6, .bool sb] 25
        have hC8 := hC7.alloc (.cells #[.int .i64 f5', .int .i64 f6, .bool sb] 25)
        have hx8 := hx7.alloc (.cells #[.int .i64 f5', .int .i64 f6, .bool sb] 25)
        have hy8 := hy7.alloc (.cells #[.int .i64 f5', .int .i64 f6, .bool sb] 25)
        have hK8 := hK7.alloc (.cells #[.int .i64 f5', .int .i64 f6, .bool sb] 25)
        have hcl := hC7.lt
        generalize w7.alloc _ = w8 at *
        generalize w7.heap.size = ba at *
        clear c5 c6 c7 hL7 hx7 hy7 hK7 hC7 hsb hf5 E5 h5b
        have c0 : w8.cell? ⟨bc, 0, none⟩ = some (.int .i64 f0) := hC8.cell 0
        have c1 : w8.cell? ⟨bc, 1, none⟩ = some (.int .i64 f1) := hC8.cell 1
        have c2 : w8.cell? ⟨bc, 2, none⟩ = some (.int .i64 f2) := hC8.cell 2
        have c3 : w8.cell? ⟨bc, 3, none⟩ = some (.int .i64 f3) := hC8.cell 3
        have c4 : w8.cell? ⟨bc, 4, none⟩ = some (.int .i64 f4) := hC8.cell 4
        have d0 : w8.cell? ⟨ba, 0, none⟩ = some (.int .i64 f5') := hA8.cell 0
        have d1 : w8.cell? ⟨ba, 1, none⟩ = some (.int .i64 f6) := hA8.cell 1
        have d2 : w8.cell? ⟨ba, 2, none⟩ = some (.bool sb) := hA8.cell 2
        obtain ⟨bo, hbo⟩ : ∃ b, (isCfg f0 f1 f2 f3 f4 && isAsk f5' f6) = b := ⟨_, rfl⟩
        have hB := both_is f0 f1 f2 f3 f4 f5' f6 sb
        rw [hbo] at hB
        have HBO := Lib.hid hbo
        have HB := Lib.hid hB
        clear hB hbo
        cases bo with
        | false =>
          go_wp2_with fail
          refine (HB.out _).mono ?_
          rintro e w9 ⟨rfl, k9⟩
          have hx9 := hx8.kept k9 id
          have hy9 := hy8.kept k9 id
          have hK9 := hK8.trans k9 (fun _ _ f => f)
          clear c0 c1 c2 c3 c4 d0 d1 d2 hx8 hy8 hK8 hA8 hC8 k9
          obtain ⟨p1, p2, p3, p4⟩ := rows_two hx9 hy9 hK9 (Nat.le_refl _) cfg0 ask0
          go_wp2_with (first
            | refine wpList_store_rowTo rfl 23 _ _ rfl rfl w.heap.size cfg0 (by kernel_rfl) (by kernel_rfl) 23 _ hx9 (by kernel_rfl) (by kernel_rfl) (by kernel_rfl) ?_
            | refine wpList_store_rowTo rfl 25 _ _ rfl rfl (w.heap.size + 1) ask0 (by kernel_rfl) (by kernel_rfl) 25 _ p1 (by kernel_rfl) (by kernel_rfl) (by kernel_rfl) ?_)
          refine bodyPost_ret (results_two rfl _ _ w.heap.size (w.heap.size + 1) 23 25 cfg0 ask0 _ _ rfl rfl p2 p3 Tryd.underlying23 rfl (by kernel_rfl) Tryd.underlying25 rfl (by kernel_rfl)) rfl ?_
          exact ⟨p4, .inr ⟨HW8.out, f0, f1, f2, f3, f4, f5, f6, f7, HF.out.2, .inl ⟨by rw [HF5.out]; exact HBO.out, rfl⟩⟩⟩
        | true =>
          go_wp2_with fail
          refine (HB.out _).mono ?_
          rintro e w9 ⟨rfl, k9⟩
          have hx9 := hx8.kept k9 id
          have hy9 := hy8.kept k9 id
          have hA9 := hA8.kept k9 id
          have hC9 := hC8.kept k9 id
          have hK9 := hK8.trans k9 (fun _ _ f => f)
          clear c0 c1 c2 c3 c4 d0 d1 d2 hx8 hy8 hK8 hA8 hC8 k9
          go_upto_region 21 with fail
          have hAo : ∀ b, Box (two w9 (w9.setRow w.heap.size #[.int .i64 f0, .int .i64 f1, .int .i64 f2, .int .i64 f3, .int .i64 f4]) b) ba #[.int .i64 f5', .int .i64 f6, .bool sb] 25 := fun b => by
            cases b
            · exact hA9
            · exact Box.row_other hA9 (by omega)
          have hCo : ∀ b, Box (two w9 (w9.setRow w.heap.size #[.int .i64 f0, .int .i64 f1, .int .i64 f2, .int .i64 f3, .int .i64 f4]) b) bc #[.int .i64 f0, .int .i64 f1, .int .i64 f2, .int .i64 f3, .int .i64 f4] 23 := fun b => by
            cases b
            · exact hC9
            · exact Box.row_other hC9 (by omega)
          obtain ⟨p1, p2, p3, p4⟩ := rows_two hx9 hy9 hK9 (Nat.le_refl _) #[.int .i64 f0, .int .i64 f1, .int .i64 f2, .int .i64 f3, .int .i64 f4] #[.int .i64 f5', .int .i64 f6, .bool sb]
          refine wp_region_alloc_tail 3 2 _ rfl rfl (by omega) (Drawn w9 (w9.setRow w.heap.size #[.int .i64 f0, .int .i64 f1, .int .i64 f2, .int .i64 f3, .int .i64 f4])) ⟨1, rfl⟩ (by kernel_rfl) (by kernel_rfl) ?_
          simp only [List.take_succ_cons, List.take_zero, List.drop_succ_cons, List.drop_zero]
          refine lexA_load rfl rfl 23 _ rfl bc rfl _ _ _ hCo Tryd.underlying23 rfl (by kernel_rfl) ?_
          refine lexA_load rfl rfl 25 _ rfl ba rfl _ _ _ hAo Tryd.underlying25 rfl (by kernel_rfl) ?_
          refine lexA_store rfl rfl 23 _ _ rfl rfl w.heap.size _ rfl rfl 23 _ hx9 (by kernel_rfl) (by kernel_rfl) (by kernel_rfl) ?_
          refine lexR_nil ?_
          rintro _ ⟨nq, rfl⟩
          simp only [Act.put, List.setIfInBounds_toArray, List.set]
          have q1 : Box ((two w9 (w9.setRow w.heap.size #[.int .i64 f0, .int .i64 f1, .int .i64 f2, .int .i64 f3, .int .i64 f4]) true).drewN nq) (w.heap.size + 1) ask0 25 := p1
          have q2 : Box ((two w9 (w9.setRow w.heap.size #[.int .i64 f0, .int .i64 f1, .int .i64 f2, .int .i64 f3, .int .i64 f4]) true).drewN nq) w.heap.size #[.int .i64 f0, .int .i64 f1, .int .i64 f2, .int .i64 f3, .int .i64 f4] 23 := Box.row hx9
          have qk : Kept No w ((two w9 (w9.setRow w.heap.size #[.int .i64 f0, .int .i64 f1, .int .i64 f2, .int .i64 f3, .int .i64 f4]) true).drewN nq) := (row_kept hK9 (Nat.le_refl _) _).drewN nq
          generalize (two w9 (w9.setRow w.heap.size #[.int .i64 f0, .int .i64 f1, .int .i64 f2, .int .i64 f3, .int .i64 f4]) true).drewN nq = w10 at *
          clear p1 p2 p3 p4 hAo hCo hx9 hy9 hA9 hC9 hK9
          go_wp2_with (refine wpList_store_rowTo rfl 25 _ _ rfl rfl (w.heap.size + 1) #[.int .i64 f5', .int .i64 f6, .bool sb] (by kernel_rfl) (by kernel_rfl) 25 _ q1 (by kernel_rfl) (by kernel_rfl) (by kernel_rfl) ?_)
          refine bodyPost_ret (results_two rfl _ _ w.heap.size (w.heap.size + 1) 23 25 #[.int .i64 f0, .int .i64 f1, .int .i64 f2, .int .i64 f3, .int .i64 f4] #[.int .i64 f5', .int .i64 f6, .bool sb] _ _ rfl rfl (Box.row_other q2 (by omega)) (Box.row q1) Tryd.underlying23 rfl (by kernel_rfl) Tryd.underlying25 rfl (by kernel_rfl)) rfl ?_
          exact ⟨row_kept qk (by omega) _, .inr ⟨HW8.out, f0, f1, f2, f3, f4, f5, f6, f7, HF.out.2, .inr ⟨by rw [HF5.out]; exact HBO.out, by rw [HF5.out, HSB.out]; rfl⟩⟩⟩
  · have hlen : (W.length : Int) ≠ 8 := by omega
    have HP : Hid (W.length ≠ 8) := Lib.hid h8
    obtain ⟨n, hwn⟩ : ∃ n, W.length = n := ⟨_, rfl⟩
    rw [hwn] at hlen hc ⊢
    have hq : ((n : Int) != 8) = true := by simpa using hlen
    clear hseg hR hn h8 hwn
    obtain ⟨p1, p2, p3, p4⟩ := rows_two hx1 hy1 hk1 (Nat.le_refl _) cfg0 ask0
    go_wp2_with (first
      | refine wpList_store_rowTo rfl 23 _ _ rfl rfl w.heap.size cfg0 (by kernel_rfl) (by kernel_rfl) 23 _ hx1 (by kernel_rfl) (by kernel_rfl) (by kernel_rfl) ?_
      | refine wpList_store_rowTo rfl 25 _ _ rfl rfl (w.heap.size + 1) ask0 (by kernel_rfl) (by kernel_rfl) 25 _ p1 (by kernel_rfl) (by kernel_rfl) (by kernel_rfl) ?_)
    refine bodyPost_ret (results_two rfl _ _ w.heap.size (w.heap.size + 1) 23 25 cfg0 ask0 _ _ rfl rfl p2 p3 Tryd.underlying23 rfl (by kernel_rfl) Tryd.underlying25 rfl (by kernel_rfl)) rfl ?_
    exact ⟨p4, .inl ⟨.inl HP.out, rfl⟩⟩
end Go.Proofs.YtknpjhmgkogmaaaDoor.Line
