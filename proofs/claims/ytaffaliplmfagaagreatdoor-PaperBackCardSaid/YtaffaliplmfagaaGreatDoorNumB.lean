/-
  Package lines: the number of a text.
-/
import Derived.Test.YtaffaliplmfagaaGreatDoorLine
set_option linter.unusedVariables false
namespace Go.Proofs.YtaffaliplmfagaaGreatDoor.Line
open Go.RowKit Go.Sort Go.Proofs.YtaffaliplmfagaaGreatDoor.Own Go.Proofs.YtaffaliplmfagaaGreatDoor.Conv

set_option maxHeartbeats 2000000 in
theorem number_is (l : List UInt8) (hl : l.length ≤ 1000000) (w : World) (hT : Door.Tabs w) :
    Calls Tryz.prog 66 #[.string ⟨l.toArray⟩] w fun e w' => e = .returned (.tuple #[.int .i64 ((numberL l).getD 0), .bool (numberL l).isSome]) ∧ Kept No w w' := by
  have hsz : (⟨l.toArray⟩ : ByteArray).size = l.length := by simp [ByteArray.size]
  have HT := Lib.hid hT
  obtain ⟨_, ⟨ts, ps, hes⟩, ⟨tr, pr, her⟩⟩ := hT
  have Hes := Lib.hid hes
  have Her := Lib.hid her
  clear hes her
  cases hp : Lib.parseIntB 64 l
  case ok v =>
    have hb := Lib.parseIntB_bounds hp
    have hv0 : -9223372036854775808 ≤ v := by omega
    have hv1 : v ≤ 9223372036854775807 := by omega
    have hc := Tryz.strconv_ParseInt_10_at64_ok ⟨l.toArray⟩ (by rw [hsz]; omega) v hp w
    have HC := Lib.hid hc
    have hnum : numberL l = if Lib.itoa v = l then some v else none := by simp only [numberL, hp]
    have Hnum := Lib.hid hnum
    clear hc hp hb hsz hnum
    go_enter Tryz.func66, Tryz.ntmps66
    go_wp2_with fail
    refine HC.out.mono ?_
    rintro e w1 ⟨rfl, hw⟩
    have hk : Kept No w w1 := by
      rcases hw with rfl | ⟨t, rfl⟩
      · exact Kept.refl _ _
      · exact kept_bytes w _ t
    clear hw
    go_wp2_with fail
    refine (decimal_is v hv0 hv1 w1 (HT.out.kept hk)).mono ?_
    rintro e w2 ⟨rfl, hk2⟩
    have hK := hk.trans hk2 (fun _ _ f => f)
    by_cases heq : Lib.itoa v = l
    · have h1 : (Lib.itoa v == l) = true := by simp [heq]
      have h2 : (Lib.itoa v != l) = false := by simp [heq]
      have Heq := Lib.hid heq
      clear heq
      go_wp2_with fail
      go_ret2
      rw [Hnum.out, if_pos Heq.out]
      exact ⟨rfl, hK⟩
    · have h1 : (Lib.itoa v == l) = false := by simp [heq]
      have h2 : (Lib.itoa v != l) = true := by simp [heq]
      have Heq := Lib.hid heq
      clear heq
      go_wp2_with fail
      go_ret2
      rw [Hnum.out, if_neg Heq.out]
      exact ⟨rfl, hK⟩
  case range =>
    have hc := Tryz.strconv_ParseInt_10_at64_range_var ⟨l.toArray⟩ (by rw [hsz]; omega) hp tr pr w Her.out
    have HC := Lib.hid hc
    have hnum : numberL l = none := by simp only [numberL, hp]
    have Hnum := Lib.hid hnum
    clear hc hp hsz hnum
    go_enter Tryz.func66, Tryz.ntmps66
    go_wp2_with fail
    refine HC.out.mono ?_
    rintro e w1 ⟨N, rfl, hN, _, hb⟩
    have hK : Kept No w w1 := Kept.of_below hb (fun k h1 h2 => by omega)
    go_wp2_with fail
    go_ret2
    rw [Hnum.out]
    exact ⟨rfl, hK⟩
  all_goals
    have hc := Tryz.strconv_ParseInt_10_at64_other_var ⟨l.toArray⟩ (by rw [hsz]; omega) ⟨fun h => (by have h2 := hp.symm.trans h; cases h2), fun v h => (by have h2 := hp.symm.trans h; cases h2)⟩ ts ps w Hes.out
    have HC := Lib.hid hc
    have hnum : numberL l = none := by simp only [numberL, hp]
    have Hnum := Lib.hid hnum
    clear hc hp hsz hnum
    go_enter Tryz.func66, Tryz.ntmps66
    go_wp2_with fail
    refine HC.out.mono ?_
    rintro e w1 ⟨N, rfl, hN, _, hb⟩
    have hK : Kept No w w1 := Kept.of_below hb (fun k h1 h2 => by omega)
    go_wp2_with fail
    go_ret2
    rw [Hnum.out]
    exact ⟨rfl, hK⟩

end Go.Proofs.YtaffaliplmfagaaGreatDoor.Line
