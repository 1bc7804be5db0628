/-
  strings.Cut, lines.Split.
-/
import Derived.Test.YtaffaliplmfagaaGreatDoorCut
import Derived.BigQuiet
import Derived.Deep.QuietTactic
import Derived.Lib.Strings
set_option linter.unusedVariables false
set_option linter.unusedSimpArgs false
namespace Go.Proofs.YtaffaliplmfagaaGreatDoor.Line
open Go.RowKit Go.Sort Go.Proofs.YtaffaliplmfagaaGreatDoor.Own Go.Proofs.YtaffaliplmfagaaGreatDoor.Conv

def CutPost (l : List UInt8) (c : UInt8) (w : World) (e : Ending) (w' : World) : Prop :=
  Kept No w w' ∧ ((∀ b ∈ l, b ≠ c) ∧ e = .returned (.tuple #[.string ⟨l.toArray⟩, .string ⟨#[]⟩, .bool false]) ∨
    ∃ p r, l = p ++ c :: r ∧ (∀ b ∈ p, b ≠ c) ∧ e = .returned (.tuple #[.string ⟨p.toArray⟩, .string ⟨r.toArray⟩, .bool true]))

set_option maxHeartbeats 2000000 in
theorem cut0_is (l : List UInt8) (c : UInt8) (hl : l.length ≤ 1000000) (w : World) :
    Calls Tryz.prog 64 #[.string ⟨l.toArray⟩, .string ⟨#[c]⟩] w (CutPost l c w) := by
  have hix := Tryz.stringslite_Index_one ⟨l.toArray⟩ c w
  have hsz := mk_size l
  change Calls _ _ _ _ (fun e w' => e = .returned (.int .i64 (Lib.indexByte l c)) ∧ w' = w) at hix
  rcases index_cases l c with hn | ⟨i, hi⟩
  · rw [hn] at hix
    have hno := at_none hn
    have HX := Lib.hid hix
    have HN := Lib.hid hno
    clear hix hno hsz hn
    go_enter Tryz.func64, Tryz.ntmps64
    go_wp2_with fail
    refine HX.out.mono ?_
    rintro e w1 ⟨rfl, rfl⟩
    go_wp2_with fail
    go_ret3
    exact ⟨Kept.refl _ _, .inl ⟨HN.out, rfl⟩⟩
  · rw [hi] at hix
    obtain ⟨h1, h2, h3⟩ := at_some hi
    have HX := Lib.hid hix
    have H1 := Lib.hid h1
    have H2 := Lib.hid h2
    have HT := Lib.hid (ext_take l i)
    have HD := Lib.hid (ext_drop l (i + 1) l.length (Nat.le_refl _))
    have c1 : (0 : Int) ≤ ↑i := by omega
    have c2 : (↑i : Int) ≤ ↑(⟨l.toArray⟩ : ByteArray).size := by rw [hsz]; omega
    have c3 : (0 : Int) ≤ ↑i + 1 := by omega
    have c4 : (↑i + 1 : Int) ≤ ↑(⟨l.toArray⟩ : ByteArray).size := by rw [hsz]; omega
    have HS := Lib.hid hsz
    clear hix hsz hi h1 h2
    go_enter Tryz.func64, Tryz.ntmps64
    go_wp2_with fail
    refine HX.out.mono ?_
    rintro e w1 ⟨rfl, rfl⟩
    go_wp2_with fail
    go_quiet (fail)
    go_wp2_with fail
    go_ret3
    refine ⟨(Kept.refl No _).drewN _, .inr ⟨l.take i, l.drop (i + 1), H1.out, H2.out, ?_⟩⟩
    show Ending.returned (.tuple #[.string ((⟨l.toArray⟩ : ByteArray).extract 0 i), .string ((⟨l.toArray⟩ : ByteArray).extract (i + 1) l.length), .bool true]) = _
    rw [HT.out, HD.out]

theorem cut_is (l : List UInt8) (c : UInt8) (hl : l.length ≤ 1000000) (w : World) :
    Calls Tryz.prog 49 #[.string ⟨l.toArray⟩, .string ⟨#[c]⟩] w (CutPost l c w) := by
  go_enter Tryz.func49, Tryz.ntmps49
  go_wp2_with fail
  refine (cut0_is l c hl w).mono ?_
  rintro e w1 ⟨hk, ⟨h1, rfl⟩ | ⟨p, r, h1, h2, rfl⟩⟩
  · have H1 := Lib.hid h1
    clear h1
    go_wp2_with fail
    go_ret3
    exact ⟨hk, .inl ⟨H1.out, rfl⟩⟩
  · have H1 := Lib.hid h1
    have H2 := Lib.hid h2
    clear h1 h2
    go_wp2_with fail
    go_ret3
    exact ⟨hk, .inr ⟨p, r, H1.out, H2.out, rfl⟩⟩




set_option maxHeartbeats 4000000 in
theorem split_is (l : List UInt8) (hl : l.length ≤ 100000) (w : World) :
    Calls Tryz.prog 27 #[.string ⟨l.toArray⟩] w (TextsPost w (linesL l)) := by
  obtain ⟨i0, hi, hz0, hz1, hz2⟩ := info_parts info_string
  obtain ⟨s0, hs0⟩ : ∃ s : ByteArray, (⟨l.toArray⟩ : ByteArray) = s := ⟨_, rfl⟩
  have HS0 := Lib.hid hs0
  rw [hs0]
  clear hs0
  go_enter Tryz.func27, Tryz.ntmps27
  go_wp2_with fail
  go_loopw [0, 3] (fun s o wr => ∃ (done : List (List UInt8)) (rest : List UInt8) (sb : ByteArray), s = .string sb ∧ Hid (sb = ⟨rest.toArray⟩) ∧ Hid (linesL l = done ++ linesL rest) ∧ Seg wr w.heap.size 9 1 o done.length (sv done) ∧ Kept No w wr ∧ done.length + rest.length ≤ l.length) (fun s _ _ => strLen s)
  case atStart => exact ⟨[], l, s0, rfl, Lib.hid HS0.out.symm, Lib.hid rfl, Seg.nil _ _ _ _, Kept.refl _ _, by simp⟩
  case round =>
    obtain ⟨done, rest, sb, rfl, hsb, hll, hseg, hK, hlen⟩ := hrel
    by_cases hr : rest = []
    · have h1 : sb.toList = [] := by rw [hsb.out, mk_toList, hr]
      have he : (!sb.toList.isEmpty) = false := by simp [h1]
      have hd : linesL l = done := by rw [hll.out, hr]; simp [linesL]
      have Hd := Lib.hid hd
      have Hs := Lib.hid hseg
      obtain ⟨ao, co, rfl⟩ : ∃ a c, u3 = .slice a done.length c := by obtain ⟨_, a, c, h, _⟩ := hseg.rd; exact ⟨a, c, h⟩
      clear hd hseg hr h1
      go_wp2_with fail
      go_ret
      unfold TextsPost
      rw [Hd.out]
      exact ⟨hK, _, rfl, Hs.out⟩
    · have h1 : ¬ sb.toList = [] := by rw [hsb.out, mk_toList]; exact hr
      have Hr := Lib.hid hr
      have hrl : 0 < rest.length := List.length_pos_iff.2 hr
      have hm : strLen (.string sb) = rest.length := by rw [hsb.out, strLen_mk]
      have Hm := Lib.hid hm
      have he : (!sb.toList.isEmpty) = true := by simp [h1]
      clear hr hm h1
      go_wp2_with fail
      rw [hsb.out]
      refine (cut_is rest 10 (by omega) wr).mono ?_
      rintro e w1 ⟨hk1, hcut⟩
      have Hcut := Lib.hid hcut
      have hK1 := hK.trans hk1 (fun _ _ f => f)
      have hs1 := hseg.kept hk1 (fun _ _ => id)
      have hz := hK1.size
      obtain ⟨x, y, b, rfl, Hx, hxl⟩ : ∃ (x y : List UInt8) (b : Bool), e = .returned (.tuple #[.string ⟨x.toArray⟩, .string ⟨y.toArray⟩, .bool b]) ∧ Hid (linesL l = (done ++ [x]) ++ linesL y) ∧ y.length < rest.length := by
        rcases Hcut.out with ⟨h1, rfl⟩ | ⟨p, r, h1, h2, rfl⟩
        · exact ⟨rest, [], false, rfl, Lib.hid (by rw [hll.out, lines_miss rest Hr.out h1]; simp [linesL]), hrl⟩
        · exact ⟨p, r, true, rfl, Lib.hid (by rw [hll.out, h1, lines_hit p r h2]; simp), by rw [h1]; simp; omega⟩
      obtain ⟨sx, hsx⟩ : ∃ s : ByteArray, (⟨x.toArray⟩ : ByteArray) = s := ⟨_, rfl⟩
      obtain ⟨sy, hsy⟩ : ∃ s : ByteArray, (⟨y.toArray⟩ : ByteArray) = s := ⟨_, rfl⟩
      have hvx : sv [x] = [.string sx] := by rw [← hsx]; rfl
      have hmy : strLen (.string sy) = y.length := by rw [← hsy, strLen_mk]
      rw [hsx, hsy]
      have HX := Lib.hid hvx
      have HY := Lib.hid hsy
      have HM := Lib.hid hmy
      clear hsx hsy hcut Hcut hvx hmy
      go_wp2_with (at_builtin; refine wpList_append_seg rfl _ _ 36 rfl w.heap.size 9 i0 (.string ⟨#[]⟩) 1 16 Tryz.underlying36 hi hz0 hz1 hz2 rfl (by decide) _ _ _ rfl (hs1.kept ((Kept.refl No _).alloc _) (fun _ _ f => f.elim)) ⟨_, 0, none⟩ 1 1 [.string sx] rfl rfl (cell_one _ _ _) (fun u hu => by simp at hu; subst hu; rfl) (by unfold maxLen; omega) (by omega) (by simp; omega) ?_)
      intro v3 w3 hs3 hg3 hb3
      have hK3 : Kept No w w3 := (hK1.alloc (.cells #[.string sx] 9)).grown hg3 (fun g hlt hg => by have := (hs1.lt g hg).1; omega)
      have Hs3 := Lib.hid hs3
      clear hs3 hg3 hb3 hs1 hK1 hk1 hseg
      go_wp2_with fail
      go_roundw
      case rel =>
        have h3 := Hs3.out
        rw [← HX.out] at h3
        exact ⟨done ++ [x], y, sy, rfl, Lib.hid HY.out.symm, Hx, by rw [List.length_append, sv_app]; exact h3, hK3, by simp; omega⟩
      case measure => rw [Hm.out, HM.out]; omega
end Go.Proofs.YtaffaliplmfagaaGreatDoor.Line
