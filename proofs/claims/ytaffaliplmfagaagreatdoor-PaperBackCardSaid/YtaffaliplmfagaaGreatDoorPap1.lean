/-
  paper.fine: may something that was found be?
-/
import Derived.Test.YtaffaliplmfagaaGreatDoorKey
import Derived.Test.YtaffaliplmfagaaGreatDoorTell
set_option linter.unusedVariables false
set_option linter.unusedSimpArgs false
namespace Go.Proofs.YtaffaliplmfagaaGreatDoor.Line
open Go.RowKit Go.Sort Go.Proofs.YtaffaliplmfagaaGreatDoor.Own Go.Proofs.YtaffaliplmfagaaGreatDoor.Conv Go.Proofs.YtaffaliplmfagaaGreatDoor.Calm

def inB (a : Int) : Bool := decide (0 ≤ a ∧ a ≤ 7)
def allIn (zs : List Int) : Bool := zs.all inB
def fineB (k i j : Int) (zs : List Int) : Bool := isKey k i j && (decide (1 ≤ zs.length ∧ zs.length ≤ 4096) && allIn zs)

theorem bad_is (a : Int) (w : World) : Calls Tryz.prog 60 #[.int .i64 a] w fun e w' => e = .returned (.bool (!inB a)) ∧ w' = w := by
  have h := in_is a 0 7 w
  have H := Lib.hid h
  clear h
  unfold inB
  generalize decide (0 ≤ a ∧ a ≤ 7) = b at *
  go_enter Tryz.func60, Tryz.ntmps60
  go_wp2_with fail
  refine H.out.mono ?_
  rintro e w' ⟨rfl, rfl⟩
  go_wp2_with fail
  go_ret
  exact ⟨rfl, rfl⟩

set_option maxHeartbeats 2000000 in
theorem indexbad_is (v : Value) (n : Nat) (zs : List Int) (w : World) (h : Rd w 1 v n (vals zs)) :
    Calls Tryz.prog 72 #[v, .func (.func 60) #[] #[]] w fun e w' => (∃ i : Int, e = .returned (.int .i64 i) ∧ ((i = -1 ∧ allIn zs = true) ∨ (0 ≤ i ∧ allIn zs = false))) ∧ Kept No w w' := by
  obtain ⟨hl, ao, cap, rfl, hc, hm, -, hR⟩ := h
  rw [vals_len, Nat.mul_one] at hl
  unfold maxLen at hm
  have HL := Lib.hid hl
  have HR := Lib.hid hR
  clear hl hR
  go_enter Tryz.func72, Tryz.ntmps72
  go_wp2_with fail
  go_loopw [8] (fun i wr => ∃ k : Nat, k ≤ n ∧ i = .int .i64 k ∧ Hid (allIn (zs.take k) = true) ∧ Kept No w wr) (fun i _ => n - (intOf i).toNat)
  case atStart => exact ⟨0, by omega, rfl, Lib.hid rfl, Kept.refl _ _⟩
  case round =>
    obtain ⟨k, hk, rfl, hall, hK⟩ := hrel
    by_cases hlt : k < n
    · obtain ⟨g, o, rfl, hg, hcell⟩ := HR.out (by omega)
      obtain ⟨x, hx⟩ : ∃ x, zs[k]? = some x := ⟨_, List.getElem?_eq_getElem (by have := HL.out; omega)⟩
      have c0 : wr.cell? ⟨g, o + k, none⟩ = some (.int .i64 x) := (hK.cell (p := ⟨g, o + k, none⟩) hg id).trans (hcell k _ (by rw [vals, List.getElem?_map, hx]; rfl))
      have ht : Hid (zs.take (k + 1) = zs.take k ++ [x]) := Lib.hid (by rw [List.take_add_one, hx]; rfl)
      have hmem : Hid (x ∈ zs) := Lib.hid (List.mem_of_getElem? hx)
      clear hcell hx
      obtain ⟨b, hb⟩ : ∃ b, inB x = b := ⟨_, rfl⟩
      have hbad := fun w => bad_is x w
      rw [hb] at hbad
      have HB := Lib.hid hbad
      have HBB := Lib.hid hb
      clear hbad hb
      go_upto_region 4 with fail
      go_wp2_with fail
      refine (HB.out _).mono ?_
      rintro e w' ⟨rfl, rfl⟩
      clear c0
      cases b with
      | false =>
        have hno : Hid (allIn zs = false) := Lib.hid (by
          cases ha : allIn zs with
          | false => rfl
          | true => have := List.all_eq_true.1 ha x hmem.out; rw [HBB.out] at this; cases this)
        go_wp2_with fail
        go_ret
        exact ⟨⟨_, rfl, .inr ⟨by omega, hno.out⟩⟩, hK⟩
      | true =>
        have hyes : Hid (allIn (zs.take (k + 1)) = true) := Lib.hid (by
          have := hall.out
          unfold allIn at this ⊢
          rw [ht.out, List.all_append, this]
          simp [HBB.out])
        go_wp2_with fail
        go_roundw
        case rel => exact ⟨k + 1, by omega, by go_num, hyes, hK⟩
        case measure => simp [intOf]; omega
    · obtain rfl : k = n := by omega
      have hyes : Hid (allIn zs = true) := Lib.hid (by have := hall.out; rw [List.take_of_length_le (by have := HL.out; omega)] at this; exact this)
      go_wp2_with fail
      go_ret
      exact ⟨⟨-1, rfl, .inl ⟨rfl, hyes.out⟩⟩, hK⟩

theorem anybad_is (v : Value) (n : Nat) (zs : List Int) (w : World) (h : Rd w 1 v n (vals zs)) :
    Calls Tryz.prog 61 #[v, .func (.func 60) #[] #[]] w fun e w' => e = .returned (.bool (!allIn zs)) ∧ Kept No w w' := by
  have hi := indexbad_is v n zs w h
  have HI := Lib.hid hi
  clear hi h
  go_enter Tryz.func61, Tryz.ntmps61
  go_wp2_with fail
  refine HI.out.mono ?_
  rintro e w1 ⟨⟨i, rfl, hi⟩, k1⟩
  rcases hi with ⟨rfl, hall⟩ | ⟨h0, hall⟩
  · have HA := Lib.hid hall
    clear hall
    go_wp2_with fail
    go_ret
    exact ⟨by rw [HA.out]; rfl, k1⟩
  · have HA := Lib.hid hall
    clear hall
    go_wp2_with fail
    go_ret
    exact ⟨by rw [HA.out]; simp [h0], k1⟩

set_option maxHeartbeats 2000000 in
theorem fine_is (k i j : Int) (v : Value) (n : Nat) (zs : List Int) (w : World) (h : Rd w 1 v n (vals zs)) :
    Calls Tryz.prog 47 #[.agg #[.int .i64 k, .int .i64 i, .int .i64 j, v]] w fun e w' => e = .returned (.bool (fineB k i j zs)) ∧ Kept No w w' := by
  have hl : zs.length = n := by have := h.len; rw [vals_len] at this; omega
  obtain ⟨-, ao, cap, rfl, hc, hm, -, -⟩ := id h
  unfold maxLen at hm
  obtain ⟨b1, hb1⟩ : ∃ b, isKey k i j = b := ⟨_, rfl⟩
  obtain ⟨b2, hb2⟩ : ∃ b, decide (1 ≤ (n : Int) ∧ (n : Int) ≤ 4096) = b := ⟨_, rfl⟩
  obtain ⟨b3, hb3⟩ : ∃ b, allIn zs = b := ⟨_, rfl⟩
  have hE : fineB k i j zs = (b1 && (b2 && b3)) := by
    rw [fineB, hb1, hb3, ← hb2, hl]
    congr 2
    simp only [decide_eq_decide]
    omega
  have h1 := fun w => is_is k i j w
  have h2 := fun w => in_is (n : Int) 1 4096 w
  have h3 := fun w h => anybad_is (.slice ao n cap) n zs w h
  rw [hb1] at h1
  rw [hb2] at h2
  rw [hb3] at h3
  rw [hE]
  have H1 := Lib.hid h1
  have H2 := Lib.hid h2
  have H3 := Lib.hid h3
  have hx := Box.new w #[.int .i64 k, .int .i64 i, .int .i64 j, .slice ao n cap] 48
  have hk := (Kept.refl No w).alloc (.cells #[.int .i64 k, .int .i64 i, .int .i64 j, .slice ao n cap] 48)
  have HH := Lib.hid (h.kept hk (fun _ _ => id))
  have HX := Lib.hid hx
  have HK := Lib.hid hk
  clear hb1 hb2 hb3 hE h1 h2 h3 h hl hx hk
  go_enter Tryz.func47, Tryz.ntmps47
  go_upto_region 1 with fail
  generalize w.alloc (.cells #[.int .i64 k, .int .i64 i, .int .i64 j, .slice ao n cap] 48) = w0 at *
  have c0 : w0.cell? ⟨w.heap.size, 0, none⟩ = some (.int .i64 k) := HX.out.cell 0
  have c1 : w0.cell? ⟨w.heap.size, 1, none⟩ = some (.int .i64 i) := HX.out.cell 1
  have c2 : w0.cell? ⟨w.heap.size, 2, none⟩ = some (.int .i64 j) := HX.out.cell 2
  go_wp2_with fail
  refine (H1.out _).mono ?_
  rintro e w1 ⟨rfl, k1⟩
  have hk1 := HK.out.trans k1 (fun _ _ f => f)
  cases b1 with
  | false =>
    clear c0 c1 c2
    go_wp2_with fail
    go_ret
    exact ⟨rfl, hk1⟩
  | true =>
    have d3 : w1.cell? ⟨w.heap.size, 3, none⟩ = some (.slice ao n cap) := (HX.out.kept k1 id).cell 3
    have HH1 := Lib.hid (HH.out.kept k1 (fun _ _ => id))
    clear c0 c1 c2
    go_wp2_with fail
    refine (H2.out _).mono ?_
    rintro e w2 ⟨rfl, rfl⟩
    cases b2 with
    | false =>
      go_wp2_with fail
      go_ret
      exact ⟨rfl, hk1⟩
    | true =>
      go_wp2_with fail
      refine (H3.out _ HH1.out).mono ?_
      rintro e w3 ⟨rfl, k3⟩
      have hk3 := hk1.trans k3 (fun _ _ f => f)
      clear d3
      go_wp2_with fail
      go_ret
      exact ⟨by simp, hk3⟩
end Go.Proofs.YtaffaliplmfagaaGreatDoor.Line
