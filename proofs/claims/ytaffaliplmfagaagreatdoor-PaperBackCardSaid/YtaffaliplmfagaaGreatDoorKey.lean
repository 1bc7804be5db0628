/-
  Package keys: whether a key may be; the names; a key's text.
-/
import Derived.Test.YtaffaliplmfagaaGreatDoorKeyLess2
import Derived.Test.YtaffaliplmfagaaGreatDoorRow
import Derived.Great.BuildSlice
set_option linter.unusedVariables false
namespace Go.Proofs.YtaffaliplmfagaaGreatDoor.Line
open Go.RowKit Go.Sort Go.Proofs.YtaffaliplmfagaaGreatDoor.Own Go.Proofs.YtaffaliplmfagaaGreatDoor.Conv Go.Proofs.YtaffaliplmfagaaGreatDoor.Calm

def int64 (z : Int) : Prop := -9223372036854775808 ≤ z ∧ z ≤ 9223372036854775807
theorem itoa_len {z : Int} (h : int64 z) : (Lib.itoa z).length ≤ 21 := Lib.itoa_length_le z h.1 h.2
theorem join3_is (w : World) (b : Nat) (x y z : List UInt8) (sx sy sz : ByteArray) (hx : (⟨x.toArray⟩ : ByteArray) = sx) (hy : (⟨y.toArray⟩ : ByteArray) = sy) (hz : (⟨z.toArray⟩ : ByteArray) = sz) (t : TypeId) (h : Box w b #[.string sx, .string sy, .string sz] t) (hl : x.length + y.length + z.length ≤ 1000) :
    Calls Tryz.prog 34 #[.slice (some ⟨b, 0, none⟩) 3 3] w fun e w' => e = .returned (.string ⟨(Lib.join [x, y, z] [32]).toArray⟩) ∧ Kept No w w' :=
  join_is w _ 3 [x, y, z] (box_rd h (by rw [← hx, ← hy, ← hz]; rfl) 3 rfl (by simp [maxLen])) (by omega) (by simp [Lib.join]; omega)
theorem in_is (n lo hi : Int) (w : World) :
    Calls Tryz.prog 46 #[.int .i64 n, .int .i64 lo, .int .i64 hi] w fun e w' => e = .returned (.bool (decide (lo ≤ n ∧ n ≤ hi))) ∧ w' = w := by
  go_enter Tryz.func46, Tryz.ntmps46
  by_cases h0 : lo ≤ n
  · go_wp2_with fail
    all_goals
      go_ret
      simp
      omega
  · go_wp2_with fail
    all_goals
      go_ret
      simp
      omega
theorem in_to (n lo hi : Int) (b : Bool) (h : decide (lo ≤ n ∧ n ≤ hi) = b) (w : World) :
    Calls Tryz.prog 46 #[.int .i64 n, .int .i64 lo, .int .i64 hi] w fun e w' => e = .returned (.bool b) ∧ w' = w := h ▸ in_is n lo hi w

def isKey (k i j : Int) : Bool := decide ((1 ≤ k ∧ k ≤ 6) ∧ (0 ≤ i ∧ i ≤ 3) ∧ 0 ≤ j ∧ j ≤ 15)
set_option maxHeartbeats 4000000 in
theorem is_is (k i j : Int) (w : World) :
    Calls Tryz.prog 40 #[.agg #[.int .i64 k, .int .i64 i, .int .i64 j]] w fun e w' => e = .returned (.bool (isKey k i j)) ∧ Kept No w w' := by
  obtain ⟨b, hb⟩ : ∃ b, isKey k i j = b := ⟨_, rfl⟩
  rw [hb]
  unfold isKey at hb
  have hk : Kept No w (w.alloc (.cells #[.int .i64 k, .int .i64 i, .int .i64 j] 45)) := (Kept.refl _ _).alloc _
  have HK := Lib.hid hk
  clear hk
  by_cases h1 : 1 ≤ k ∧ k ≤ 6
  · have I1 := Lib.hid (in_to k 1 6 true (by simp [h1]))
    by_cases h2 : 0 ≤ i ∧ i ≤ 3
    · have I2 := Lib.hid (in_to i 0 3 true (by simp [h2]))
      have hb2 : decide (0 ≤ j ∧ j ≤ 15) = b := by rw [← hb]; simp [h1, h2]
      have I3 := Lib.hid (in_to j 0 15 b hb2)
      clear h1 h2 hb hb2
      go_enter Tryz.func40, Tryz.ntmps40
      go_wp2_with (first
        | (go_at_call 46; with_reducible refine (I1.out _).mono ?_; rintro e w' ⟨rfl, rfl⟩)
        | (go_at_call 46; with_reducible refine (I2.out _).mono ?_; rintro e w' ⟨rfl, rfl⟩)
        | (go_at_call 46; with_reducible refine (I3.out _).mono ?_; rintro e w' ⟨rfl, rfl⟩))
      go_ret
      exact ⟨rfl, HK.out⟩
    · have I2 := Lib.hid (in_to i 0 3 false (by simp; omega))
      obtain rfl : false = b := by rw [← hb]; simp; intros; omega
      clear h1 h2 hb
      go_enter Tryz.func40, Tryz.ntmps40
      go_wp2_with (first
        | (go_at_call 46; with_reducible refine (I1.out _).mono ?_; rintro e w' ⟨rfl, rfl⟩)
        | (go_at_call 46; with_reducible refine (I2.out _).mono ?_; rintro e w' ⟨rfl, rfl⟩))
      go_ret
      exact ⟨rfl, HK.out⟩
  · have I1 := Lib.hid (in_to k 1 6 false (by simp; omega))
    obtain rfl : false = b := by rw [← hb]; simp; intros; omega
    clear h1 hb
    go_enter Tryz.func40, Tryz.ntmps40
    go_wp2_with (first
      | (go_at_call 46; with_reducible refine (I1.out _).mono ?_; rintro e w' ⟨rfl, rfl⟩))
    go_ret
    exact ⟨rfl, HK.out⟩

/-- The names, by number. -/
def nameL : List (List UInt8) := [[], [117, 97, 102], [100, 111, 117, 98, 108, 101, 102, 114, 101, 101], [100, 111, 117, 98, 108, 101, 114, 101, 116, 105, 114, 101], [97, 98, 97], [119, 105, 108, 100], [108, 101, 97, 107]]
def nameS : Array Value := #[.string ⟨#[]⟩, .string ⟨#[117, 97, 102]⟩, .string ⟨#[100, 111, 117, 98, 108, 101, 102, 114, 101, 101]⟩, .string ⟨#[100, 111, 117, 98, 108, 101, 114, 101, 116, 105, 114, 101]⟩, .string ⟨#[97, 98, 97]⟩, .string ⟨#[119, 105, 108, 100]⟩, .string ⟨#[108, 101, 97, 107]⟩]
theorem setRow_kept {S : Nat → Prop} {w w1 : World} {o : Array Value} {t : TypeId} {fr : Nat × Nat} (hk : Kept S w w1) (hb : w1.heap[w.heap.size]? = some (.cells o t fr)) (cs : Array Value) : Kept S w (w1.setRow w.heap.size cs) :=
  ⟨hk.os, hk.tape, hk.output, by rw [setRow_size]; exact hk.size, fun k hk1 hk2 => (setRow_other w1 w.heap.size k cs (by omega)).trans (hk.block k hk1 hk2)⟩
set_option maxRecDepth 100000 in
set_option maxHeartbeats 4000000 in
theorem names_is (w : World) : Calls Tryz.prog 42 #[] w fun e w' => e = .returned (.agg nameS) ∧ Kept No w w' := by
  go_enter Tryz.func42, Tryz.ntmps42
  go_upto_region 1 with fail
  refine wp_region_lit ?_
  refine wpList_buildTo rfl 87 _ rfl _ rfl nameS (by kernel_rfl) ?_
  have hb0 : (w.alloc (.cells (List.replicate 7 (Value.string ⟨#[]⟩)).toArray 87)).heap[w.heap.size]? = some (.cells (List.replicate 7 (Value.string ⟨#[]⟩)).toArray 87 (0, 0)) := heap_alloc_new w _
  have hk0 : Kept No w (w.alloc (.cells (List.replicate 7 (Value.string ⟨#[]⟩)).toArray 87)) := (Kept.refl _ _).alloc _
  have hk1 := setRow_kept hk0 hb0 nameS
  refine wpList_store_rowTo rfl 87 _ _ rfl rfl w.heap.size nameS (by kernel_rfl) (by kernel_rfl) 87 _ hb0 (by kernel_rfl) (by kernel_rfl) (by kernel_rfl) ?_
  have hb1 := setRow_heap _ w.heap.size _ nameS 87 (0, 0) hb0
  refine wpList_nil ?_
  rename_i hK
  refine hK _ _ ?_
  go_wp2_with fail
  refine bodyPost_ret (results_cell_row rfl _ _ w.heap.size 87 nameS (0, 0) _ (by kernel_rfl) hb1 Tryz.underlying87 rfl (by kernel_rfl)) rfl ⟨rfl, hk1⟩

def nameOf (k : Int) : List UInt8 := nameL.getD k.toNat []
theorem ix1 (w : World) : (Instr.index 87 (.agg nameS) (.int .i64 1)).run Tryz.prog w = .ok (.string ⟨(nameOf 1).toArray⟩) w := by kernel_rfl
theorem ix2 (w : World) : (Instr.index 87 (.agg nameS) (.int .i64 2)).run Tryz.prog w = .ok (.string ⟨(nameOf 2).toArray⟩) w := by kernel_rfl
theorem ix3 (w : World) : (Instr.index 87 (.agg nameS) (.int .i64 3)).run Tryz.prog w = .ok (.string ⟨(nameOf 3).toArray⟩) w := by kernel_rfl
theorem ix4 (w : World) : (Instr.index 87 (.agg nameS) (.int .i64 4)).run Tryz.prog w = .ok (.string ⟨(nameOf 4).toArray⟩) w := by kernel_rfl
theorem ix5 (w : World) : (Instr.index 87 (.agg nameS) (.int .i64 5)).run Tryz.prog w = .ok (.string ⟨(nameOf 5).toArray⟩) w := by kernel_rfl
theorem ix6 (w : World) : (Instr.index 87 (.agg nameS) (.int .i64 6)).run Tryz.prog w = .ok (.string ⟨(nameOf 6).toArray⟩) w := by kernel_rfl
theorem ix_is (kn : Nat) (h1 : 1 ≤ kn) (h6 : kn ≤ 6) (w : World) : (Instr.index 87 (.agg nameS) (.int .i64 kn)).run Tryz.prog w = .ok (.string ⟨(nameOf kn).toArray⟩) w := by
  have : kn = 1 ∨ kn = 2 ∨ kn = 3 ∨ kn = 4 ∨ kn = 5 ∨ kn = 6 := by omega
  rcases this with rfl | rfl | rfl | rfl | rfl | rfl
  · exact ix1 w
  · exact ix2 w
  · exact ix3 w
  · exact ix4 w
  · exact ix5 w
  · exact ix6 w
/-- A key's text. -/
def keyT (k i j : Int) : List UInt8 := if isKey k i j = true then Lib.join [nameOf k, Lib.itoa i, Lib.itoa j] [32] else []

set_option maxHeartbeats 4000000 in
theorem text_is (k i j : Int) (w : World) (hT : Door.Tabs w) :
    Calls Tryz.prog 21 #[.agg #[.int .i64 k, .int .i64 i, .int .i64 j]] w fun e w' => e = .returned (.string ⟨(keyT k i j).toArray⟩) ∧ Kept No w w' := by
  obtain ⟨st, hst⟩ : ∃ s : ByteArray, (⟨(keyT k i j).toArray⟩ : ByteArray) = s := ⟨_, rfl⟩
  obtain ⟨si, hsi⟩ : ∃ s : ByteArray, (⟨(Lib.itoa i).toArray⟩ : ByteArray) = s := ⟨_, rfl⟩
  obtain ⟨sj, hsj⟩ : ∃ s : ByteArray, (⟨(Lib.itoa j).toArray⟩ : ByteArray) = s := ⟨_, rfl⟩
  rw [hst]
  have hI := is_is k i j
  have HT := Lib.hid hT
  cases hk : isKey k i j with
  | false =>
    rw [hk] at hI
    have HI := Lib.hid hI
    obtain rfl : st = ⟨#[]⟩ := by rw [← hst, keyT, hk]; rfl
    have hk0 : Kept No w (w.alloc (.cells #[.int .i64 k, .int .i64 i, .int .i64 j] 45)) := (Kept.refl _ _).alloc _
    have HK := Lib.hid hk0
    clear hI hk hst hsi hsj hk0 hT
    go_enter Tryz.func21, Tryz.ntmps21
    go_wp2_with fail
    refine (HI.out _).mono ?_
    rintro e w1 ⟨rfl, k1⟩
    have k2 := HK.out.trans k1 (fun _ _ f => f)
    go_wp2_with fail
    go_ret
    exact ⟨rfl, k2⟩
  | true =>
    rw [hk] at hI
    have HI := Lib.hid hI
    have hkk := hk
    unfold isKey at hkk
    simp only [decide_eq_true_eq] at hkk
    obtain ⟨⟨a1, a2⟩, ⟨a3, a4⟩, a5, a6⟩ := hkk
    have hi : int64 i := ⟨by omega, by omega⟩
    have hj : int64 j := ⟨by omega, by omega⟩
    have LI := Lib.hid (itoa_len hi)
    have LJ := Lib.hid (itoa_len hj)
    obtain ⟨kn, rfl⟩ : ∃ n : Nat, k = n := ⟨k.toNat, by omega⟩
    have hkn : kn < 7 := by omega
    obtain ⟨sn, hsn⟩ : ∃ s : ByteArray, (⟨(nameOf kn).toArray⟩ : ByteArray) = s := ⟨_, rfl⟩
    have hln : (nameOf kn).length ≤ 12 := by
      unfold nameOf
      simp only [Int.toNat_natCast]
      have : kn = 1 ∨ kn = 2 ∨ kn = 3 ∨ kn = 4 ∨ kn = 5 ∨ kn = 6 := by omega
      rcases this with rfl | rfl | rfl | rfl | rfl | rfl <;> decide
    have LN := Lib.hid hln
    have hix : ∀ w, (Instr.index 87 (.agg nameS) (.int .i64 kn)).run Tryz.prog w = .ok (.string sn) w := by
      intro w
      rw [← hsn]
      exact ix_is kn (by omega) (by omega) w
    have d1 : ∀ w, Door.Tabs w → Calls Tryz.prog 36 #[.int .i64 i] w fun e w' => e = .returned (.string si) ∧ Kept No w w' := fun w hT => by rw [← hsi]; exact decimal_is i hi.1 hi.2 w hT
    have d2 : ∀ w, Door.Tabs w → Calls Tryz.prog 36 #[.int .i64 j] w fun e w' => e = .returned (.string sj) ∧ Kept No w w' := fun w hT => by rw [← hsj]; exact decimal_is j hj.1 hj.2 w hT
    have hq : (⟨(Lib.join [nameOf kn, Lib.itoa i, Lib.itoa j] [32]).toArray⟩ : ByteArray) = st := by rw [← hst, keyT, if_pos hk]
    have HQ := Lib.hid hq
    have D1 := Lib.hid d1
    have D2 := Lib.hid d2
    have HSN := Lib.hid hsn
    have HSI := Lib.hid hsi
    have HSJ := Lib.hid hsj
    have hbx := Box.new w #[.int .i64 kn, .int .i64 i, .int .i64 j] 45
    have hk0 : Kept No w (w.alloc (.cells #[.int .i64 kn, .int .i64 i, .int .i64 j] 45)) := (Kept.refl _ _).alloc _
    have HN := Lib.hid names_is
    clear hI hk hst hsi hsj d1 d2 hq hln hT a1 a2 a3 a4 a5 a6 hi hj hsn
    go_enter Tryz.func21, Tryz.ntmps21
    go_upto_region 1 with fail
    generalize w.alloc (.cells #[.int .i64 kn, .int .i64 i, .int .i64 j] 45) = w0 at *
    have c0 : w0.cell? ⟨w.heap.size, 0, none⟩ = some (.int .i64 kn) := hbx.cell 0
    have c1 : w0.cell? ⟨w.heap.size, 1, none⟩ = some (.int .i64 i) := hbx.cell 1
    have c2 : w0.cell? ⟨w.heap.size, 2, none⟩ = some (.int .i64 j) := hbx.cell 2
    go_wp2_with fail
    refine (HI.out _).mono ?_
    rintro e w1 ⟨rfl, k1⟩
    have hbx1 := hbx.kept k1 id
    have hk1 := hk0.trans k1 (fun _ _ f => f)
    have HT1 := Lib.hid (HT.out.kept hk1)
    clear k1 hbx hk0 c0 c1 c2
    go_upto_region 3 with fail
    obtain ⟨c0, c1, c2⟩ := KW.box3 hbx1
    have n1 : ∀ p : KW w1, Calls Tryz.prog 42 #[] p.w fun e w' => e = .returned (.agg nameS) ∧ Kept No p.w w' := fun p => HN.out _
    have e1 : ∀ p : KW w1, Calls Tryz.prog 36 #[.int .i64 i] p.w fun e w' => e = .returned (.string si) ∧ Kept No p.w w' := fun p => D1.out _ (HT1.out.kept p.h)
    have e2 : ∀ p : KW w1, Calls Tryz.prog 36 #[.int .i64 j] p.w fun e w' => e = .returned (.string sj) ∧ Kept No p.w w' := fun p => D2.out _ (HT1.out.kept p.h)
    have N1 := Lib.hid n1
    have E1 := Lib.hid e1
    have E2 := Lib.hid e2
    clear n1 e1 e2
    refine wp_region_calm_tail 10 (by kernel_rfl) (by kernel_rfl) ?_
    simp only [List.take_succ_cons, List.take_zero, List.drop_succ_cons, List.drop_zero]
    repeat (go_big_quiet_step (first | (go_at_call 42; with_reducible exact calls_of _ (N1.out _)) | (go_at_call 36; with_reducible exact calls_of _ (E1.out _)) | (go_at_call 36; with_reducible exact calls_of _ (E2.out _))))
    refine wpQuiet_nil ?_
    rintro _ ⟨p, rfl⟩
    have hk2 := hk1.trans p.h (fun _ _ f => f)
    have hb3 := Box.new p.w #[.string sn, .string si, .string sj] 9
    generalize p.w = w2 at *
    clear c0 c1 c2 hbx1 hk1
    go_wp2_with fail
    refine (join3_is _ _ (nameOf kn) (Lib.itoa i) (Lib.itoa j) _ _ _ HSN.out HSI.out HSJ.out _ hb3 (by have := LI.out; have := LJ.out; have := LN.out; omega)).mono ?_
    rw [HQ.out]
    rintro e w3 ⟨rfl, k3⟩
    have hk3 := (hk2.alloc _).trans k3 (fun _ _ f => f)
    go_wp2_with fail
    go_ret
    exact ⟨rfl, hk3⟩
end Go.Proofs.YtaffaliplmfagaaGreatDoor.Line
