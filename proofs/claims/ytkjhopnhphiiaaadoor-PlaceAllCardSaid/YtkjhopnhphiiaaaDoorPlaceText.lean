/-
  A place's text; whether it holds a word.
-/
import Derived.Test.YtkjhopnhphiiaaaDoorPlaceRef
import Derived.Test.YtkjhopnhphiiaaaDoorCalm
import Derived.BigQuiet
import Derived.Deep.DeepCutAuto
import Derived.Deep.CutBlock
set_option linter.unusedVariables false
namespace Go.Proofs.YtkjhopnhphiiaaaDoor.Line
open Go.RowKit Go.Sort Go.Proofs.YtkjhopnhphiiaaaDoor.Own Go.Proofs.YtkjhopnhphiiaaaDoor.Conv Go.Proofs.YtkjhopnhphiiaaaDoor.Calm

def int64 (z : Int) : Prop := -9223372036854775808 ≤ z ∧ z ≤ 9223372036854775807
/-- A place's words. -/
def placeW (k i j : Int) : List (List UInt8) :=
  if k = 1 then [[114, 111, 111, 116], Lib.itoa i]
  else if k = 2 then [[104, 101, 97, 100], Lib.itoa i]
  else if k = 3 then [[102, 105, 101, 108, 100], Lib.itoa i, Lib.itoa j]
  else if k = 4 then [[104, 101, 97, 112]]
  else if k = 5 then [[115, 108, 111, 116], Lib.itoa i, Lib.itoa j]
  else if k = 6 then [[101, 112, 111, 99, 104]]
  else if k = 7 then [[109, 97, 114, 107], Lib.itoa i]
  else if k = 8 then [[99, 111, 117, 110, 116], Lib.itoa i]
  else []
def placeT (k i j : Int) : List UInt8 := Lib.join (placeW k i j) [32]
theorem itoa_len {z : Int} (h : int64 z) : (Lib.itoa z).length ≤ 21 := Lib.itoa_length_le z h.1 h.2

/-- A call of Join over two words, or three, that lie in a block of their own. -/
theorem join2_is (w : World) (b : Nat) (x y : List UInt8) (sx sy : ByteArray) (hx : (⟨x.toArray⟩ : ByteArray) = sx) (hy : (⟨y.toArray⟩ : ByteArray) = sy) (t : TypeId) (h : Box w b #[.string sx, .string sy] t) (hl : x.length + y.length ≤ 1000) :
    Calls Tryd.prog 27 #[.slice (some ⟨b, 0, none⟩) 2 2] w fun e w' => e = .returned (.string ⟨(Lib.join [x, y] [32]).toArray⟩) ∧ Kept No w w' :=
  join_is w _ 2 [x, y] (box_rd h (by rw [← hx, ← hy]; rfl) 2 rfl (by simp [maxLen])) (by omega) (by simp [Lib.join]; omega)
theorem join3_is (w : World) (b : Nat) (x y z : List UInt8) (sx sy sz : ByteArray) (hx : (⟨x.toArray⟩ : ByteArray) = sx) (hy : (⟨y.toArray⟩ : ByteArray) = sy) (hz : (⟨z.toArray⟩ : ByteArray) = sz) (t : TypeId) (h : Box w b #[.string sx, .string sy, .string sz] t) (hl : x.length + y.length + z.length ≤ 1000) :
    Calls Tryd.prog 27 #[.slice (some ⟨b, 0, none⟩) 3 3] w fun e w' => e = .returned (.string ⟨(Lib.join [x, y, z] [32]).toArray⟩) ∧ Kept No w w' :=
  join_is w _ 3 [x, y, z] (box_rd h (by rw [← hx, ← hy, ← hz]; rfl) 3 rfl (by simp [maxLen])) (by omega) (by simp [Lib.join]; omega)

set_option maxRecDepth 100000 in
set_option maxHeartbeats 4000000 in
theorem text_is (k i j : Int) (hi : int64 i) (hj : int64 j) (w : World) (hT : Door.Tabs w) :
    Calls Tryd.prog 18 #[.agg #[.int .i64 k, .int .i64 i, .int .i64 j]] w fun e w' => e = .returned (.string ⟨(placeT k i j).toArray⟩) ∧ Kept No w w' := by
  obtain ⟨st, hst⟩ : ∃ s : ByteArray, (⟨(placeT k i j).toArray⟩ : ByteArray) = s := ⟨_, rfl⟩
  obtain ⟨si, hsi⟩ : ∃ s : ByteArray, (⟨(Lib.itoa i).toArray⟩ : ByteArray) = s := ⟨_, rfl⟩
  obtain ⟨sj, hsj⟩ : ∃ s : ByteArray, (⟨(Lib.itoa j).toArray⟩ : ByteArray) = s := ⟨_, rfl⟩
  rw [hst]
  have hk : Kept No w (w.alloc (.cells #[.int .i64 k, .int .i64 i, .int .i64 j] 23)) := (Kept.refl _ _).alloc _
  have hT0 := hT.kept hk
  have hbx := Box.new w #[.int .i64 k, .int .i64 i, .int .i64 j] 23
  have li := itoa_len hi
  have lj := itoa_len hj
  obtain ⟨w0, hw0⟩ : ∃ w0, w.alloc (.cells #[.int .i64 k, .int .i64 i, .int .i64 j] 23) = w0 := ⟨_, rfl⟩
  rw [hw0] at hk hT0 hbx
  have d1 : ∀ p : KW w0, Calls Tryd.prog 17 #[.int .i64 i] p.w fun e w' => e = .returned (.string si) ∧ Kept No p.w w' := fun p => by rw [← hsi]; exact decimal_is i hi.1 hi.2 p.w (hT0.kept p.h)
  have d2 : ∀ p : KW w0, Calls Tryd.prog 17 #[.int .i64 j] p.w fun e w' => e = .returned (.string sj) ∧ Kept No p.w w' := fun p => by rw [← hsj]; exact decimal_is j hj.1 hj.2 p.w (hT0.kept p.h)
  have D1 := Lib.hid d1
  have D2 := Lib.hid d2
  have HW := Lib.hid hw0
  have HST := Lib.hid hst
  have HSI := Lib.hid hsi
  have HSJ := Lib.hid hsj
  have LI := Lib.hid li
  have LJ := Lib.hid lj
  obtain ⟨c0, c1, c2⟩ := KW.box3 hbx
  clear hT hi hj d1 d2 hw0 hst hsi hsj hT0 li lj
  go_enter Tryd.func18, Tryd.ntmps18
  go_upto_region 1 with fail
  rw [HW.out]
  refine wp_region_calm (by kernel_rfl) (by kernel_rfl) ?_
  repeat (quiet_step (first | (go_at_call 17; with_reducible exact calls_of _ (D1.out _)) | (go_at_call 17; with_reducible exact calls_of _ (D2.out _))))
  refine wpQuiet_nil ?_
  rintro _ ⟨p, rfl⟩
  have e0 := c0 p
  have hk1 := hk.trans p.h (fun _ _ f => f)
  generalize p.w = w1 at *
  clear c0 c1 c2 hk hbx D1 D2 HW
  by_cases k1 : k = 1
  · subst k1
    have hq : Hid ((⟨(Lib.join [[114, 111, 111, 116], Lib.itoa i] [32]).toArray⟩ : ByteArray) = st) := Lib.hid (by rw [← HST.out]; rfl)
    go_wp2_with fail
    refine (join2_is _ _ [114, 111, 111, 116] (Lib.itoa i) _ si rfl HSI.out _ (Box.new w1 _ _) (by have := LI.out; simp; omega)).mono ?_
    rw [hq.out]
    rintro e w3 ⟨rfl, k3⟩
    have hk3 := (hk1.alloc _).trans k3 (fun _ _ f => f)
    go_wp2_with fail
    go_ret
    exact ⟨rfl, hk3⟩
  by_cases k2 : k = 2
  · subst k2
    have hq : Hid ((⟨(Lib.join [[104, 101, 97, 100], Lib.itoa i] [32]).toArray⟩ : ByteArray) = st) := Lib.hid (by rw [← HST.out]; rfl)
    go_wp2_with fail
    refine (join2_is _ _ [104, 101, 97, 100] (Lib.itoa i) _ si rfl HSI.out _ (Box.new w1 _ _) (by have := LI.out; simp; omega)).mono ?_
    rw [hq.out]
    rintro e w3 ⟨rfl, k3⟩
    have hk3 := (hk1.alloc _).trans k3 (fun _ _ f => f)
    go_wp2_with fail
    go_ret
    exact ⟨rfl, hk3⟩
  by_cases k3 : k = 3
  · subst k3
    have hq : Hid ((⟨(Lib.join [[102, 105, 101, 108, 100], Lib.itoa i, Lib.itoa j] [32]).toArray⟩ : ByteArray) = st) := Lib.hid (by rw [← HST.out]; rfl)
    go_wp2_with fail
    refine (join3_is _ _ [102, 105, 101, 108, 100] (Lib.itoa i) (Lib.itoa j) _ si sj rfl HSI.out HSJ.out _ (Box.new w1 _ _) (by have := LI.out; have := LJ.out; simp; omega)).mono ?_
    rw [hq.out]
    rintro e w3 ⟨rfl, k3⟩
    have hk3 := (hk1.alloc _).trans k3 (fun _ _ f => f)
    go_wp2_with fail
    go_ret
    exact ⟨rfl, hk3⟩
  by_cases k4 : k = 4
  · subst k4
    obtain rfl : st = ⟨#[104, 101, 97, 112]⟩ := by rw [← HST.out]; rfl
    go_wp2_with fail
    go_ret
    exact ⟨rfl, hk1⟩
  by_cases k5 : k = 5
  · subst k5
    have hq : Hid ((⟨(Lib.join [[115, 108, 111, 116], Lib.itoa i, Lib.itoa j] [32]).toArray⟩ : ByteArray) = st) := Lib.hid (by rw [← HST.out]; rfl)
    go_wp2_with fail
    refine (join3_is _ _ [115, 108, 111, 116] (Lib.itoa i) (Lib.itoa j) _ si sj rfl HSI.out HSJ.out _ (Box.new w1 _ _) (by have := LI.out; have := LJ.out; simp; omega)).mono ?_
    rw [hq.out]
    rintro e w3 ⟨rfl, k3⟩
    have hk3 := (hk1.alloc _).trans k3 (fun _ _ f => f)
    go_wp2_with fail
    go_ret
    exact ⟨rfl, hk3⟩
  by_cases k6 : k = 6
  · subst k6
    obtain rfl : st = ⟨#[101, 112, 111, 99, 104]⟩ := by rw [← HST.out]; rfl
    go_wp2_with fail
    go_ret
    exact ⟨rfl, hk1⟩
  by_cases k7 : k = 7
  · subst k7
    have hq : Hid ((⟨(Lib.join [[109, 97, 114, 107], Lib.itoa i] [32]).toArray⟩ : ByteArray) = st) := Lib.hid (by rw [← HST.out]; rfl)
    go_wp2_with fail
    refine (join2_is _ _ [109, 97, 114, 107] (Lib.itoa i) _ si rfl HSI.out _ (Box.new w1 _ _) (by have := LI.out; simp; omega)).mono ?_
    rw [hq.out]
    rintro e w3 ⟨rfl, k3⟩
    have hk3 := (hk1.alloc _).trans k3 (fun _ _ f => f)
    go_wp2_with fail
    go_ret
    exact ⟨rfl, hk3⟩
  by_cases k8 : k = 8
  · subst k8
    have hq : Hid ((⟨(Lib.join [[99, 111, 117, 110, 116], Lib.itoa i] [32]).toArray⟩ : ByteArray) = st) := Lib.hid (by rw [← HST.out]; rfl)
    go_wp2_with fail
    refine (join2_is _ _ [99, 111, 117, 110, 116] (Lib.itoa i) _ si rfl HSI.out _ (Box.new w1 _ _) (by have := LI.out; simp; omega)).mono ?_
    rw [hq.out]
    rintro e w3 ⟨rfl, k3⟩
    have hk3 := (hk1.alloc _).trans k3 (fun _ _ f => f)
    go_wp2_with fail
    go_ret
    exact ⟨rfl, hk3⟩
  obtain rfl : st = ⟨#[]⟩ := by rw [← HST.out, placeT, placeW, if_neg k1, if_neg k2, if_neg k3, if_neg k4, if_neg k5, if_neg k6, if_neg k7, if_neg k8]; rfl
  have g1 : (k == 1) = false := by simp [k1]
  have g2 : (k == 2) = false := by simp [k2]
  have g3 : (k == 3) = false := by simp [k3]
  have g4 : (k == 4) = false := by simp [k4]
  have g5 : (k == 5) = false := by simp [k5]
  have g6 : (k == 6) = false := by simp [k6]
  have g7 : (k == 7) = false := by simp [k7]
  have g8 : (k == 8) = false := by simp [k8]
  clear k1 k2 k3 k4 k5 k6 k7 k8
  go_wp2_with fail
  go_ret
  exact ⟨rfl, hk1⟩

def holdsB (k : Int) : Bool := decide (k = 1 ∨ k = 3 ∨ (5 ≤ k ∧ k ≤ 8))
set_option maxHeartbeats 4000000 in
theorem holds_is (k i j : Int) (w : World) :
    Calls Tryd.prog 11 #[.agg #[.int .i64 k, .int .i64 i, .int .i64 j]] w fun e w' => e = .returned (.bool (holdsB k)) ∧ Kept No w w' := by
  obtain ⟨b, hb⟩ : ∃ b, holdsB k = b := ⟨_, rfl⟩
  rw [hb]
  have hk : Kept No w (w.alloc (.cells #[.int .i64 k, .int .i64 i, .int .i64 j] 23)) := (Kept.refl _ _).alloc _
  have HK := Lib.hid hk
  simp only [holdsB] at hb
  clear hk
  by_cases h1 : 1 ≤ k ∧ k ≤ 8
  · have i1 : ∀ w, Calls Tryd.prog 21 #[.int .i64 k, .int .i64 1, .int .i64 8] w fun e w' => e = .returned (.bool true) ∧ w' = w := fun w => by
      have := in_is k 1 8 w
      rwa [show decide (1 ≤ k ∧ k ≤ 8) = true by simp [h1]] at this
    have I1 := Lib.hid i1
    clear i1
    by_cases h2 : k = 2
    · subst h2
      obtain rfl : false = b := by rw [← hb]; rfl
      go_enter Tryd.func11, Tryd.ntmps11
      go_wp2_with (go_at_call 21; with_reducible refine (I1.out _).mono ?_; rintro e w' ⟨rfl, rfl⟩)
      go_ret
      exact ⟨rfl, HK.out⟩
    · have e2 : (k != 2) = true := by simp [h2]
      obtain rfl : (k != 4) = b := by rw [← hb, Bool.eq_iff_iff]; simp; omega
      clear hb h1 h2
      go_enter Tryd.func11, Tryd.ntmps11
      go_wp2_with (go_at_call 21; with_reducible refine (I1.out _).mono ?_; rintro e w' ⟨rfl, rfl⟩)
      go_ret
      exact ⟨rfl, HK.out⟩
  · have i1 : ∀ w, Calls Tryd.prog 21 #[.int .i64 k, .int .i64 1, .int .i64 8] w fun e w' => e = .returned (.bool false) ∧ w' = w := fun w => by
      have := in_is k 1 8 w
      rwa [show decide (1 ≤ k ∧ k ≤ 8) = false by simp; omega] at this
    have I1 := Lib.hid i1
    clear i1
    obtain rfl : false = b := by rw [← hb]; symm; simp; omega
    clear hb h1
    go_enter Tryd.func11, Tryd.ntmps11
    go_wp2_with (go_at_call 21; with_reducible refine (I1.out _).mono ?_; rintro e w' ⟨rfl, rfl⟩)
    go_ret
    exact ⟨rfl, HK.out⟩
end Go.Proofs.YtkjhopnhphiiaaaDoor.Line
