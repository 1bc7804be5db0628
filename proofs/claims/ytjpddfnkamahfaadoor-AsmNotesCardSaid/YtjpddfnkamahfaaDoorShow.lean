/-
  An instruction's line.
-/
import Derived.Test.YtjpddfnkamahfaaDoorNames
import Derived.Test.YtjpddfnkamahfaaDoorRefDec
import Derived.Test.YtjpddfnkamahfaaDoorLine
set_option linter.unusedVariables false
namespace Go.Proofs.YtjpddfnkamahfaaDoor.Line
open Go.RowKit Go.Sort Go.Proofs.YtjpddfnkamahfaaDoor.Own Go.Proofs.YtjpddfnkamahfaaDoor.Conv

theorem join_snoc (xs : List (List UInt8)) (y sep : List UInt8) : Lib.join (xs ++ [y]) sep = if xs = [] then y else Lib.join xs sep ++ (sep ++ y) := by
  cases xs with
  | nil => rw [List.nil_append, Lib.join_one, if_pos rfl]
  | cons x r =>
    rw [if_neg (by simp), List.cons_append, Lib.join_cons, Lib.join_cons]
    simp [Lib.joinTail]

def int64 (z : Int) : Prop := -9223372036854775808 ≤ z ∧ z ≤ 9223372036854775807
/-- The words of an instruction's line, the first k operands. -/
def lineW (z a b c n : Int) : Nat → List (List UInt8)
  | 0 => [nameZ z]
  | k + 1 => lineW z a b c n k ++ (if (shapeZ z)[k]? = some 45 then [] else [Lib.itoa (fldZ a b c n k)])
theorem lineW_len (z a b c n : Int) (k : Nat) : 1 ≤ (lineW z a b c n k).length ∧ (lineW z a b c n k).length ≤ k + 1 := by
  induction k with
  | zero => simp [lineW]
  | succ k ih =>
    rw [lineW, List.length_append]
    split <;> simp <;> omega
theorem lineW_ne (z a b c n : Int) (k : Nat) : lineW z a b c n k ≠ [] := by
  intro h
  have := (lineW_len z a b c n k).1
  rw [h] at this
  simp at this
theorem fld_bd {a b c n : Int} (ha : int64 a) (hb : int64 b) (hc : int64 c) (hn : int64 n) (i : Int) : int64 (fldZ a b c n i) := by
  unfold fldZ
  split
  · exact ha
  · split
    · exact hb
    · split
      · exact hc
      · exact hn
def instrT (z a b c n : Int) : List UInt8 := Lib.join (lineW z a b c n 4) [32]
theorem name_len (z : Int) : (nameZ z).length ≤ 6 := by
  unfold nameZ
  split
  · rename_i h
    obtain ⟨k, rfl⟩ : ∃ k : Nat, z = k := ⟨z.toNat, by omega⟩
    suffices H : ∀ k, k < 26 → (nameK k).length ≤ 6 from H k (by omega)
    decide +kernel
  · simp
theorem line_len {z a b c n : Int} (ha : int64 a) (hb : int64 b) (hc : int64 c) (hn : int64 n) : ∀ k, k ≤ 4 → (Lib.join (lineW z a b c n k) [32]).length ≤ 6 + 22 * k
  | 0, _ => by rw [lineW, Lib.join_one]; have := name_len z; omega
  | k + 1, h => by
    have ih := line_len (z := z) ha hb hc hn k (by omega)
    rw [lineW]
    split
    · rw [List.append_nil]; omega
    · rw [join_snoc, if_neg (lineW_ne z a b c n k)]
      obtain ⟨f0, f1⟩ := fld_bd ha hb hc hn k
      have := Lib.itoa_length_le (fldZ a b c n k) f0 f1
      simp only [List.length_append, List.length_cons, List.length_nil]
      omega
theorem shape_four {z : Int} (h : 1 ≤ z ∧ z ≤ 25) : (shapeZ z).length = 4 := by
  obtain ⟨k, rfl⟩ : ∃ k : Nat, z = k := ⟨z.toNat, by omega⟩
  rw [shapeZ_in k (by omega)]
  exact (name_some k (by omega) (by omega)).2
theorem name_ne {z : Int} (h : 1 ≤ z ∧ z ≤ 25) : nameZ z ≠ [] := by
  obtain ⟨k, rfl⟩ : ∃ k : Nat, z = k := ⟨z.toNat, by omega⟩
  rw [nameZ_in k (by omega)]
  exact (name_some k (by omega) (by omega)).1

theorem toList_mk2 {s : ByteArray} {l : List UInt8} (h : (⟨l.toArray⟩ : ByteArray) = s) : s.toList = l := by
  subst h
  rw [ByteArray.toList_eq]

set_option maxRecDepth 100000 in
set_option maxHeartbeats 4000000 in
theorem refinstr_is (z a b c n : Int) (ha : int64 a) (hb : int64 b) (hc : int64 c) (hn : int64 n) (hin : 1 ≤ z ∧ z ≤ 25) (w : World) :
    Calls Tryd.prog 29 #[.agg #[.int .i64 z, .int .i64 a, .int .i64 b, .int .i64 c, .int .i64 n]] w fun e w' => e = .returned (.string ⟨(instrT z a b c n).toArray⟩) ∧ Kept No w w' := by
  have hs4 := shape_four hin
  obtain ⟨ss, hss⟩ : ∃ s : ByteArray, (⟨(shapeZ z).toArray⟩ : ByteArray) = s := ⟨_, rfl⟩
  have hsz : ss.size = 4 := by rw [← hss]; simp [ByteArray.size, hs4]
  have hget : ∀ k (h : k < ss.size) (h2 : k < (shapeZ z).length), ss[k]'h = (shapeZ z)[k] := by subst hss; intro k h h2; rfl
  have Hget := Lib.hid hget
  have HSS := Lib.hid hss
  have Hs4 := Lib.hid hs4
  have hs1 : ss.size ≤ 4 := by omega
  have hs2 : 4 ≤ ss.size := by omega
  have HL := Lib.hid (fun k h => line_len (z := z) ha hb hc hn k h)
  have HF := Lib.hid (fun i => fld_bd ha hb hc hn i)
  clear hget hss hs4 hsz hin ha hb hc hn
  go_enter Tryd.func29, Tryd.ntmps29
  go_wp2_with fail
  refine (refshape_is z _).mono ?_
  rw [HSS.out]
  rintro e w1 ⟨rfl, k1⟩
  have hx1 : Box w1 w.heap.size #[.int .i64 z, .int .i64 a, .int .i64 b, .int .i64 c, .int .i64 n] 25 := (Box.new w _ _).kept k1 id
  have hk1 : Kept No w w1 := ((Kept.refl _ _).alloc _).trans k1 (fun _ _ f => f)
  clear k1
  have c0 := hx1.cell 0
  simp only [List.getElem?_toArray, List.getElem?_cons_zero] at c0
  go_wp2_with fail
  refine (refname_is z _).mono ?_
  rintro e w2 ⟨rfl, k2⟩
  have hx2 := hx1.kept k2 id
  have hk2 := hk1.trans k2 (fun _ _ f => f)
  clear k2 hx1 hk1 c0
  go_wp2_with fail
  go_loopw [4, 5] (fun s i wr => ∃ (k : Nat) (sb : ByteArray), k ≤ 4 ∧ s = .string sb ∧ i = .int .i64 k ∧ Hid (sb = ⟨(Lib.join (lineW z a b c n k) [32]).toArray⟩) ∧ Kept No w wr ∧ Box wr w.heap.size #[.int .i64 z, .int .i64 a, .int .i64 b, .int .i64 c, .int .i64 n] 25) (fun _ i _ => 4 - (intOf i).toNat)
  case atStart => exact ⟨0, _, by omega, rfl, rfl, Lib.hid (by rw [lineW, Lib.join_one]), hk2, hx2⟩
  case round =>
    obtain ⟨k, sb, hk, rfl, rfl, hsb, hK, hx⟩ := hrel
    by_cases hlt : k < ss.size
    · have hg := Hget.out k hlt (by rw [Hs4.out]; omega)
      have hlw : lineW z a b c n (k + 1) = lineW z a b c n k ++ (if (shapeZ z)[k]'(by rw [Hs4.out]; omega) = 45 then [] else [Lib.itoa (fldZ a b c n k)]) := by
        rw [lineW, List.getElem?_eq_getElem (by rw [Hs4.out]; omega)]
        simp
      have hlen := HL.out (k + 1) (by omega)
      have hlen0 := HL.out k (by omega)
      have hsbz : sb.size ≤ 200 := by rw [hsb.out]; simp [ByteArray.size]; omega
      generalize (shapeZ z)[k]'(by rw [Hs4.out]; omega) = ch at *
      by_cases h45 : ch = 45
      · have hcc : (((ss[k]'hlt).toNat : Int) != 45) = false := by rw [hg, h45]; rfl
        have hnew : Hid (sb = ⟨(Lib.join (lineW z a b c n (k + 1)) [32]).toArray⟩) := Lib.hid (by rw [hlw, if_pos h45, List.append_nil]; exact hsb.out)
        clear hg hlw h45 hlen hlen0
        go_wp2_with fail
        go_roundw
        case rel => exact ⟨k + 1, sb, by omega, rfl, by go_num, hnew, hK, hx⟩
        case measure => simp [intOf]; omega
      · have hcc : (((ss[k]'hlt).toNat : Int) != 45) = true := by
          rw [hg, bne_iff_ne]; intro e; exact h45 (UInt8.toNat_inj.1 (Int.ofNat.inj e))
        have hjn : Lib.join (lineW z a b c n (k + 1)) [32] = Lib.join (lineW z a b c n k) [32] ++ ([32] ++ Lib.itoa (fldZ a b c n k)) := by
          rw [hlw, if_neg h45, join_snoc, if_neg (lineW_ne z a b c n k)]
        obtain ⟨f0, f1⟩ := HF.out k
        obtain ⟨v, hv⟩ : ∃ v, fldZ a b c n k = v := ⟨_, rfl⟩
        rw [hv] at f0 f1 hjn
        have hvl := Lib.itoa_length_le v f0 f1
        obtain ⟨sx, hsx⟩ : ∃ s : ByteArray, (⟨(Lib.itoa v).toArray⟩ : ByteArray) = s := ⟨_, rfl⟩
        have hsxz : sx.size ≤ 40 := by rw [← hsx]; simp [ByteArray.size]; omega
        have hnew : Hid ((sb ++ ⟨#[32]⟩) ++ sx = ⟨(Lib.join (lineW z a b c n (k + 1)) [32]).toArray⟩) := Lib.hid (by
          rw [hjn, hsb.out, ← hsx]
          rw [show (⟨(Lib.join (lineW z a b c n k) [32]).toArray⟩ : ByteArray) ++ ⟨#[32]⟩ = ⟨(Lib.join (lineW z a b c n k) [32] ++ [32]).toArray⟩ from app_mk _ [32]]
          rw [app_mk, List.append_assoc])
        have HV := Lib.hid hv
        have HX := Lib.hid hsx
        have d0 : wr.cell? ⟨w.heap.size, 0, none⟩ = some (.int .i64 z) := hx.cell 0
        have d1 : wr.cell? ⟨w.heap.size, 1, none⟩ = some (.int .i64 a) := hx.cell 1
        have d2 : wr.cell? ⟨w.heap.size, 2, none⟩ = some (.int .i64 b) := hx.cell 2
        have d3 : wr.cell? ⟨w.heap.size, 3, none⟩ = some (.int .i64 c) := hx.cell 3
        have d4 : wr.cell? ⟨w.heap.size, 4, none⟩ = some (.int .i64 n) := hx.cell 4
        clear hg hlw h45 hlen hlen0 hjn hv hsx hvl
        go_wp2_with fail
        refine (reffield_is z a b c n k wr).mono ?_
        rw [HV.out]
        rintro e w3 ⟨rfl, k3⟩
        have hx3 := hx.kept k3 id
        have hK3 := hK.trans k3 (fun _ _ f => f)
        clear k3 hx hK
        go_wp2_with fail
        refine (refdec_is v f0 f1 w3).mono ?_
        rw [HX.out]
        rintro e w4 ⟨rfl, k4⟩
        have hx4 := hx3.kept k4 id
        have hK4 := hK3.trans k4 (fun _ _ f => f)
        clear k4 hx3 hK3
        go_wp2_with fail
        go_roundw
        case rel => exact ⟨k + 1, _, by omega, rfl, by go_num, hnew, hK4, hx4⟩
        case measure => simp [intOf]; omega
    · obtain rfl : k = 4 := by omega
      go_wp2_with fail
      go_ret
      rw [instrT, ← hsb.out]
      exact ⟨rfl, hK⟩
end Go.Proofs.YtjpddfnkamahfaaDoor.Line
