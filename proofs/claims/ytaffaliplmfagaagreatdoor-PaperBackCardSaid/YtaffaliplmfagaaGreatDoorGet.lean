/-
  Package pick: a schedule from octets; what the statement says of octets that are none.
-/
import Derived.Test.YtaffaliplmfagaaGreatDoorPut
set_option linter.unusedVariables false
namespace Go.Proofs.YtaffaliplmfagaaGreatDoor.Pick
open Go.RowKit Go.Proofs.YtaffaliplmfagaaGreatDoor.Own Go.Proofs.YtaffaliplmfagaaGreatDoor.Oct

theorem info_int : (Tryz.prog.info? 3).map (fun i => (i.zero, i.size, i.bytes)) = some (some (.int .i64 0), 1, 8) := by kernel_rfl

/-- Where octets are wrong, from the k-th pick on, d picks being left. -/
def wrF (bs : List Int) (k : Nat) : Nat → Nat × Int
  | 0 => (2 + k, 0)
  | d + 1 => if bs.length ≤ 2 + k then (bs.length, 1) else if 7 < bs.getD (2 + k) 0 then (2 + k, 3) else wrF bs (k + 1) d
def wrongL (bs : List Int) : Nat × Int := if bs.length < 2 then (bs.length, 1) else if 4096 < beN (bs.take 2) then (0, 4) else wrF bs 0 (beN (bs.take 2))
theorem wrF_step (bs : List Int) (k d : Nat) (hd : 0 < d) : wrF bs k d = if bs.length ≤ 2 + k then (bs.length, 1) else if 7 < bs.getD (2 + k) 0 then (2 + k, 3) else wrF bs (k + 1) (d - 1) := by
  obtain ⟨d, rfl⟩ : ∃ m, d = m + 1 := ⟨d - 1, by omega⟩
  rfl

def GetPost (w : World) (bs : List Int) (e : Ending) (w' : World) : Prop :=
  Kept No w w' ∧ ∃ v, e = .returned (.tuple #[v, .int .i64 (wrongL bs).1, .int .i64 (wrongL bs).2]) ∧
    ((wrongL bs).2 ≠ 0 ∧ v = .slice none 0 0 ∨ ((wrongL bs).2 = 0 ∧ wrongL bs = (2 + beN (bs.take 2), 0) ∧ 2 ≤ bs.length ∧ beN (bs.take 2) ≤ 4096 ∧ 2 + beN (bs.take 2) ≤ bs.length ∧ okP ((bs.drop 2).take (beN (bs.take 2)))) ∧ Seg w' w.heap.size 3 1 v (beN (bs.take 2)) (vals ((bs.drop 2).take (beN (bs.take 2)))))

theorem wrap_small (x : Nat) (h : x < 9223372036854775808) : wrap64 (x : Int) = (x : Int) := by unfold wrap64; omega
theorem beN_two (bs : List Int) (h : Octs bs) : beN (bs.take 2) < 65536 := by simpa using beN_lt 2 bs h
theorem beN_at (bs : List Int) (h : Octs bs) (k : Nat) (hk : k < bs.length) : ((beN ((bs.drop k).take 1) : Nat) : Int) = bs[k] := by
  have e : (bs.drop k).take 1 = [bs[k]] := by
    rw [List.drop_eq_getElem_cons hk]
    rfl
  rw [e]
  have := h bs[k] (List.getElem_mem _)
  simp [beN]
  omega
theorem take_snoc (bs : List Int) (k : Nat) (h : k < bs.length) : bs.take (k + 1) = bs.take k ++ [bs[k]] := by simp

set_option maxRecDepth 100000 in
set_option maxHeartbeats 4000000 in
theorem get_is (w : World) (u : Value) (n : Nat) (bs : List Int) (hoc : Octs bs) (h : Rd w 1 u n (bv bs)) (hlim : n ≤ 1000000) :
    Calls Tryz.prog 45 #[u] w (GetPost w bs) := by
  obtain ⟨i0, hi, hz0, hz1, hz2⟩ := info_parts info_int
  have hl := h.1
  rw [bv_len, Nat.mul_one] at hl
  obtain ⟨a, c, rfl⟩ : ∃ a c, u = .slice a n c := by obtain ⟨_, a, c, h, _⟩ := h; exact ⟨a, c, h⟩
  go_enter Tryz.func45, Tryz.ntmps45
  go_wp2_with fail
  refine (new_is w _ n bs h hlim).mono ?_
  rintro e w1 ⟨r, v, rfl, hr1, k1⟩
  go_wp2_with fail
  refine (num_is w1 _ r false 0 2 v bs hoc hr1 (by omega) (by omega)).mono ?_
  have hBr := hr1.2.2.2.2
  have hOnly : ∀ {w2 : World}, Kept (Only r) w1 w2 → Kept No w w2 := fun k2 => k1.trans k2 (fun k hk h => by simp only [Only] at h; omega)
  rintro e w2 ⟨k2, ⟨hbad, rfl, hr2⟩ | ⟨⟨_, hle⟩, rfl, hr2⟩⟩
  · have hsh : bs.length < 2 := by simpa using hbad
    have hw : wrongL bs = (bs.length, 1) := by simp [wrongL, hsh]
    have Hw := Lib.hid hw
    clear hw hbad
    go_wp2_with fail
    refine bodyPost_ret (v := .tuple #[.slice none 0 0, .int .i64 n, .int .i64 1]) (by simp [results, Tryz.results45, go_sem]) rfl ?_
    exact ⟨hOnly k2, _, by rw [Hw.out]; simp only [hl], .inl ⟨by rw [Hw.out]; simp, rfl⟩⟩
  · rw [List.drop_zero]
    have h2 := beN_two bs hoc
    have hlen2 : ¬ bs.length < 2 := by omega
    have hwr := wrap_small (beN (bs.take 2)) (by omega)
    rw [hwr]
    clear hwr
    obtain ⟨m, hm⟩ : ∃ m, beN (bs.take 2) = m := ⟨_, rfl⟩
    have hwl : wrongL bs = if 4096 < m then (0, 4) else wrF bs 0 m := by simp only [wrongL, hm, if_neg hlen2]
    rw [hm] at h2 ⊢
    have HM := Lib.hid hm
    have Hwl := Lib.hid hwl
    clear hwl hm hle
    simp only [Nat.zero_add] at hr2
    by_cases hbig : 4096 < m
    · go_wp2_with fail
      refine bodyPost_ret (v := .tuple #[.slice none 0 0, .int .i64 0, .int .i64 4]) (by simp [results, Tryz.results45, go_sem]) rfl ?_
      exact ⟨hOnly k2, _, by rw [Hwl.out, if_pos hbig]; rfl, .inl ⟨by rw [Hwl.out, if_pos hbig]; simp, rfl⟩⟩
    · go_wp2_with fail
      have K2 := hOnly k2
      go_loopw [8, 28] (fun o i wr => ∃ k : Nat, k ≤ m ∧ i = .int .i64 k ∧ Rdr wr w.heap.size r false (2 + k) v bs ∧ Seg wr w.heap.size 3 1 o k (vals ((bs.drop 2).take k)) ∧ Kept No w wr ∧ okP ((bs.drop 2).take k) ∧ Hid (wrF bs k (m - k) = wrF bs 0 m) ∧ (∀ g, o.ownBlock = some g → g ≠ r ∧ v.ownBlock ≠ some g)) (fun o i wr => m - (intOf i).toNat)
      case atStart => exact ⟨0, by omega, rfl, hr2, Seg.nil _ _ _ _, K2, (fun z hz => by simp at hz), Lib.hid rfl, (fun g hg => by simp [Value.ownBlock] at hg)⟩
      case round =>
        obtain ⟨k, hk, rfl, hrk, hsk, hKk, hok, hwk, hdis⟩ := hrel
        by_cases hlt : k < m
        · have hst := wrF_step bs k (m - k) (by omega)
          have Hst := Lib.hid hst
          clear hst
          go_wp2_with fail
          refine (at_is wr _ r false (2 + k) v bs hrk).mono ?_
          rintro e wr ⟨rfl, rfl⟩
          go_wp2_with fail
          refine (num_is wr _ r false (2 + k) 1 v bs hoc hrk (by omega) (by omega)).mono ?_
          rintro e w3 ⟨k3, ⟨hbad, rfl, hr3⟩ | ⟨⟨_, hle⟩, rfl, hr3⟩⟩
          · have hend : bs.length ≤ 2 + k := by have := hrk.2.2.2.1; simp at hbad; omega
            have hend2 : bs.length = 2 + k := by have := hrk.2.2.2.1; omega
            have Hend2 := Lib.hid hend2
            clear hbad hend2
            have hK3 : Kept No w w3 := hKk.trans k3 (fun k hk h => by simp only [Only] at h; omega)
            go_wp2_with fail
            refine bodyPost_ret (v := .tuple #[.slice none 0 0, .int .i64 (2 + (k : Int)), .int .i64 1]) (by simp [results, Tryz.results45, go_sem]) rfl ?_
            have e1 : wrongL bs = (bs.length, 1) := by rw [Hwl.out, if_neg hbig, ← hwk.out, Hst.out, if_pos hend]
            exact ⟨hK3, _, by rw [e1]; simp only [Hend2.out]; rfl, .inl ⟨by rw [e1]; simp, rfl⟩⟩
          · have hlt2 : 2 + k < bs.length := by omega
            have hat := beN_at bs hoc (2 + k) hlt2
            have hmem := hoc bs[2 + k] (List.getElem_mem _)
            have hgd : bs.getD (2 + k) 0 = bs[2 + k] := by simp [List.getD, hlt2]
            have htk : (bs.drop 2).take (k + 1) = (bs.drop 2).take k ++ [bs[2 + k]] := by
              rw [take_snoc _ _ (by simp; omega)]
              simp
            have hK3 : Kept No w w3 := hKk.trans k3 (fun k hk h => by simp only [Only] at h; omega)
            have hs3 := hsk.kept k3 (fun g hg h => (hdis g hg).1 h)
            have hwr2 : wrap64 ((beN ((bs.drop (2 + k)).take 1) : Nat) : Int) = bs[2 + k] := by rw [hat]; unfold wrap64; omega
            rw [hwr2]
            have Hgd := Lib.hid hgd
            have Htk := Lib.hid htk
            clear hwr2 hat hle hgd htk hsk
            generalize bs[2 + k] = z at *
            by_cases h7 : 7 < z
            · go_wp2_with fail
              refine bodyPost_ret (v := .tuple #[.slice none 0 0, .int .i64 (2 + (k : Int)), .int .i64 3]) (by simp [results, Tryz.results45, go_sem]) rfl ?_
              have e1 : wrongL bs = (2 + k, 3) := by rw [Hwl.out, if_neg hbig, ← hwk.out, Hst.out, if_neg (by omega), Hgd.out, if_pos h7]
              exact ⟨hK3, _, by rw [e1]; rfl, .inl ⟨by rw [e1]; simp, rfl⟩⟩
            · have hz3 := hK3.size
              have hr3lt := hr3.1.lt
              have hv3 := hr3.2.1.lt
              go_wp2_with (at_builtin; refine wpList_append_seg rfl _ _ 46 rfl w.heap.size 3 i0 (.int .i64 0) 1 8 Tryz.underlying46 hi hz0 hz1 hz2 rfl (by decide) _ _ _ rfl (hs3.kept ((Kept.refl No _).alloc _) (fun _ _ f => f.elim)) ⟨_, 0, none⟩ 1 1 (vals [z]) rfl rfl ?c1 ?c2 ?c3 ?c4 ?c5 ?_)
              case c1 => exact cell_one _ _ _
              case c2 => exact one_ints _
              case c3 => unfold maxLen; omega
              case c4 => omega
              case c5 => simp; omega
              intro v4 w4 hs4 hg4 hb4
              have hk4 : Kept (fun g => u8.ownBlock = some g) w3 w4 := ((Kept.refl _ w3).alloc _).grown hg4 (fun k hk e => e)
              have hK4 : Kept No w w4 := (hK3.alloc _).grown hg4 (fun g hlt hg => by have := (hs3.lt g hg).1; omega)
              have hr4 := hr3.kept hk4 (fun h => (hdis r h).1 rfl) (fun g hg h => (hdis g h).2 hg)
              go_wp2_with fail
              go_roundw
              case rel =>
                refine ⟨k + 1, by omega, by go_num, ?_, ?_, hK4, ?_, ?_, ?_⟩
                · exact hr4
                · rw [Htk.out]
                  simpa [vals] using hs4
                · rw [Htk.out]
                  intro y hy
                  rcases List.mem_append.1 hy with hy | hy
                  · exact hok y hy
                  · simp at hy; subst hy; omega
                · exact Lib.hid (by rw [← hwk.out, Hst.out, if_neg (by omega), Hgd.out, if_neg (by omega), show m - k - 1 = m - (k + 1) by omega])
                · intro g hg
                  rcases hb4 g hg with h | h
                  · exact hdis g h
                  · exact ⟨by omega, fun e => by have := (hv3 g e).2; omega⟩
              case measure => simp [intOf]; omega
        · obtain rfl : k = m := by omega
          have e1 : wrongL bs = (2 + k, 0) := by rw [Hwl.out, if_neg hbig, ← hwk.out, Nat.sub_self]; rfl
          have he := hrk.2.2.2.1
          have He1 := Lib.hid e1
          obtain ⟨o1, c1, rfl⟩ : ∃ a c, u8 = .slice a k c := by obtain ⟨_, a, c, h, _⟩ := hsk.rd; exact ⟨a, c, h⟩
          clear e1
          go_wp2_with fail
          refine (at_is wr _ r false (2 + k) v bs hrk).mono ?_
          rintro e wr ⟨rfl, rfl⟩
          go_wp2_with fail
          refine bodyPost_ret (v := .tuple #[.slice o1 k c1, .int .i64 (2 + (k : Int)), .int .i64 0]) (by simp [results, Tryz.results45, go_sem]) rfl ?_
          unfold GetPost
          rw [HM.out]
          exact ⟨hKk, _, by rw [He1.out]; rfl, .inr ⟨⟨by rw [He1.out], He1.out, by omega, by omega, he, hok⟩, hsk⟩⟩
end Go.Proofs.YtaffaliplmfagaaGreatDoor.Pick
