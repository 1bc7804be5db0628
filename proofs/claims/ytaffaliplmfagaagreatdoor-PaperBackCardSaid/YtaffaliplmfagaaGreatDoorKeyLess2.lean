/-
  Which of two keys comes first, as the code tells it.
-/
import Derived.Test.YtaffaliplmfagaaGreatDoorKeyLess
import Derived.Test.YtaffaliplmfagaaGreatDoorCalm
import Derived.BigQuiet
import Derived.Deep.DeepCutAuto
import Derived.Deep.CutBlock
set_option linter.unusedVariables false
namespace Go.Proofs.YtaffaliplmfagaaGreatDoor.Line
open Go.RowKit Go.Sort Go.Proofs.YtaffaliplmfagaaGreatDoor.Own Go.Proofs.YtaffaliplmfagaaGreatDoor.Conv Go.Proofs.YtaffaliplmfagaaGreatDoor.Calm

set_option maxHeartbeats 4000000 in
theorem less_is (k i j k2 i2 j2 : Int) (w : World) :
    Calls Tryz.prog 48 #[.agg #[.int .i64 k, .int .i64 i, .int .i64 j], .agg #[.int .i64 k2, .int .i64 i2, .int .i64 j2]] w fun e w' => e = .returned (.bool (lessB k i j k2 i2 j2)) ∧ Kept No w w' := by
  obtain ⟨x, hx⟩ : ∃ x, Lib.compareInt k k2 = x := ⟨_, rfl⟩
  obtain ⟨y, hy⟩ : ∃ x, Lib.compareInt i i2 = x := ⟨_, rfl⟩
  obtain ⟨z, hz⟩ : ∃ x, Lib.compareInt j j2 = x := ⟨_, rfl⟩
  have hb := less_or k i j k2 i2 j2
  rw [hx, hy, hz] at hb
  have HB := Lib.hid hb
  have h1 : ∀ w, Calls Tryz.prog 63 #[.int .i64 k, .int .i64 k2] w fun e w' => e = .returned (.int .i64 x) ∧ Kept No w w' := fun w => by rw [← hx]; exact (Tryz.cmp_Compare_int k k2 w).mono (by rintro e w' ⟨rfl, rfl⟩; exact ⟨rfl, Kept.refl _ _⟩)
  have h2 : ∀ w, Calls Tryz.prog 63 #[.int .i64 i, .int .i64 i2] w fun e w' => e = .returned (.int .i64 y) ∧ Kept No w w' := fun w => by rw [← hy]; exact (Tryz.cmp_Compare_int i i2 w).mono (by rintro e w' ⟨rfl, rfl⟩; exact ⟨rfl, Kept.refl _ _⟩)
  have h3 : ∀ w, Calls Tryz.prog 63 #[.int .i64 j, .int .i64 j2] w fun e w' => e = .returned (.int .i64 z) ∧ Kept No w w' := fun w => by rw [← hz]; exact (Tryz.cmp_Compare_int j j2 w).mono (by rintro e w' ⟨rfl, rfl⟩; exact ⟨rfl, Kept.refl _ _⟩)
  have H1 := Lib.hid h1
  have H2 := Lib.hid h2
  have H3 := Lib.hid h3
  clear hb h1 h2 h3 hx hy hz
  have hbx := (Box.new w #[.int .i64 k, .int .i64 i, .int .i64 j] 45).alloc (.cells #[.int .i64 k2, .int .i64 i2, .int .i64 j2] 45)
  have hby := Box.new (w.alloc (.cells #[.int .i64 k, .int .i64 i, .int .i64 j] 45)) #[.int .i64 k2, .int .i64 i2, .int .i64 j2] 45
  have hk : Kept No w ((w.alloc (.cells #[.int .i64 k, .int .i64 i, .int .i64 j] 45)).alloc (.cells #[.int .i64 k2, .int .i64 i2, .int .i64 j2] 45)) := ((Kept.refl _ _).alloc _).alloc _
  simp only [World.size_alloc] at hby
  go_enter Tryz.func48, Tryz.ntmps48
  go_upto_region 1 with fail
  generalize (w.alloc (.cells #[.int .i64 k, .int .i64 i, .int .i64 j] 45)).alloc (.cells #[.int .i64 k2, .int .i64 i2, .int .i64 j2] 45) = w0 at *
  obtain ⟨c0, c1, c2⟩ := KW.box3 hbx
  obtain ⟨d0, d1, d2⟩ := KW.box3 hby
  refine wp_region_calm_tail 15 (by kernel_rfl) (by kernel_rfl) ?_
  simp only [List.take_succ_cons, List.take_zero, List.drop_succ_cons, List.drop_zero]
  repeat (quiet_step (first | (go_at_call 63; with_reducible exact calls_of _ (H1.out _)) | (go_at_call 63; with_reducible exact calls_of _ (H2.out _)) | (go_at_call 63; with_reducible exact calls_of _ (H3.out _))))
  refine wpQuiet_nil ?_
  rintro _ ⟨p, rfl⟩
  have hk2 := hk.trans p.h (fun _ _ f => f)
  have hb3 := box_rd (Box.new p.w #[.int .i64 x, .int .i64 y, .int .i64 z] 3) (xs := vals [x, y, z]) rfl 3 rfl (by simp [maxLen])
  generalize p.w = w1 at *
  clear c0 c1 c2 d0 d1 d2 hbx hby hk
  go_wp2_with fail
  refine (or_is _ _ 3 [x, y, z] hb3).mono ?_
  rintro e w3 ⟨rfl, k3⟩
  have hk3 := (hk2.alloc _).trans k3 (fun _ _ f => f)
  have hb := HB.out
  go_wp2_with fail
  go_ret
  exact ⟨rfl, hk3⟩
end Go.Proofs.YtaffaliplmfagaaGreatDoor.Line
