/-
  Package pick: a schedule as octets.
-/
import Derived.Test.YtaffaliplmfagaaGreatDoorPick
import Derived.Test.YtaffaliplmfagaaGreatDoorOct3
import Derived.Test.YtaffaliplmfagaaGreatDoorBuild
import Derived.Test.YtaffaliplmfagaaGreatDoorConv
set_option linter.unusedVariables false
namespace Go.Proofs.YtaffaliplmfagaaGreatDoor.Pick
open Go.RowKit Go.Proofs.YtaffaliplmfagaaGreatDoor.Own Go.Proofs.YtaffaliplmfagaaGreatDoor.Build Go.Proofs.YtaffaliplmfagaaGreatDoor.Conv Go.Proofs.YtaffaliplmfagaaGreatDoor.Oct

def okP (zs : List Int) : Prop := ∀ z ∈ zs, 0 ≤ z ∧ z ≤ 7
theorem okP.octs {zs : List Int} (h : okP zs) : Octs zs := fun z hz => by have := h z hz; omega
theorem beB_octs (x n : Nat) : Octs (beB x n) := by
  intro c hc
  simp only [beB, List.mem_map, List.mem_range] at hc
  obtain ⟨k, _, rfl⟩ := hc
  omega
theorem octs_app {xs ys : List Int} (h : Octs xs) (h' : Octs ys) : Octs (xs ++ ys) := fun c hc => (List.mem_append.1 hc).elim (h c) (h' c)

def PutPost (w : World) (n : Nat) (zs : List Int) (e : Ending) (w' : World) : Prop :=
  Kept No w w' ∧ (4096 < n ∧ e = .returned (.tuple #[.slice none 0 0, .int .i64 4]) ∨ (n ≤ 4096 ∧ ¬ okP zs) ∧ e = .returned (.tuple #[.slice none 0 0, .int .i64 3]) ∨
   (n ≤ 4096 ∧ okP zs) ∧ ∃ v, e = .returned (.tuple #[v, .int .i64 0]) ∧ Seg w' w.heap.size 5 1 v (n + 2) (bv (beB n 2 ++ zs)))

theorem bv_app (xs ys : List Int) : bv (xs ++ ys) = bv xs ++ bv ys := by simp [bv]
theorem bv_one (xs : List Int) : ∀ u ∈ bv xs, u.oneCell' = true := by
  intro u hu
  simp only [bv, List.mem_map] at hu
  obtain ⟨z, _, rfl⟩ := hu
  rfl

set_option maxHeartbeats 4000000 in
theorem put_is (w : World) (v : Value) (n : Nat) (zs : List Int) (h : Rd w 1 v n (vals zs)) :
    Calls Tryz.prog 39 #[v] w (PutPost w n zs) := by
  obtain ⟨hl, a, c, rfl, hc, hm, hnn, hR⟩ := h
  rw [vals_len, Nat.mul_one] at hl
  unfold maxLen at hm
  have HR := Lib.hid hR
  clear hR hnn
  go_enter Tryz.func39, Tryz.ntmps39
  by_cases hbig : 4096 < n
  · go_wp2_with fail
    go_ret2
    exact ⟨Kept.refl _ _, .inl ⟨hbig, rfl⟩⟩
  · go_wp2_with fail
    refine (Oct.put_is _ n 2 (by omega) (by omega) (by omega)).mono ?_
    rintro e w1 ⟨v1, rfl, hs1, k1⟩
    have hb0 := builder_kept (builder_new w) k1
    rw [World.size_alloc] at hs1
    have hlt1 := hs1.lt
    obtain ⟨_, ao, cp, rfl, hcp, hmp, _, hR1⟩ := hs1.rd
    obtain ⟨g, o, rfl, hg, hcell⟩ := hR1 (by omega)
    have hgb := (hlt1 g rfl).1
    have K1 : Kept No w w1 := ((Kept.refl No w).alloc _).trans k1 (fun _ _ f => f)
    have hz1 := K1.size
    clear hR1 hlt1 hs1 k1
    go_wp2_with fail
    refine (write_is w.heap.size w.heap.size [] ⟨g, o, none⟩ 2 cp (bv (beB n 2)) w1 (.inl hb0) (by omega) (by simp) hz1 (by simp [bv, beB]) (fun j u hu => by rw [Addr.add_lit]; exact hcell j u (by simpa using hu)) hg (by simp; omega) (bv_one _)).mono ?_
    rintro e w2 ⟨rfl, hb2, hB2⟩
    have hB : Below w.heap.size w w2 := (K1.below (Nat.le_refl _) (fun _ _ => id)).trans hB2
    clear hb0 K1 hB2
    go_wp2_with fail
    go_loopw [16] (fun i wr => ∃ k : Nat, k ≤ n ∧ i = .int .i64 k ∧ Lib.BuilderAt 73 5 w.heap.size w.heap.size (.pointer (some ⟨w.heap.size, 0, none⟩)) (bv (beB n 2 ++ zs.take k)) wr ∧ Below w.heap.size w wr ∧ okP (zs.take k)) (fun i wr => n - (intOf i).toNat)
    case atStart => exact ⟨0, by omega, rfl, by simpa using hb2, hB, fun z hz => by simp at hz⟩
    case round =>
      obtain ⟨k, hk, rfl, hbk, hBk, hok⟩ := hrel
      by_cases hlt : k < n
      · obtain ⟨g2, o2, rfl, hg2, hcell2⟩ := HR.out (by omega)
        have hcz := hcell2 k (.int .i64 (zs[k]'(by omega))) (by simp [vals])
        have c1 : wr.cell? ⟨g2, o2 + k, none⟩ = some (.int .i64 (zs[k]'(by omega))) := (hBk.cell (p := ⟨g2, o2 + k, none⟩) hg2).trans hcz
        have htk : zs.take (k + 1) = zs.take k ++ [zs[k]'(by omega)] := by simp
        have hmem : zs[k]'(by omega) ∈ zs := List.getElem_mem _
        clear hcell2 hcz
        generalize zs[k]'(by omega) = z at *
        by_cases hz : 0 ≤ z ∧ z ≤ 7
        · have d1 : decide (0 ≤ z ∧ z ≤ 7) = true := by simp [hz]
          have e1 : IntKind.u8.wrap z = z := by rw [IntKind.wrap_u8]; omega
          go_wp2_with (first
            | (go_at_call 46; refine (in_is _ _ _ _).mono ?_; rintro e w' ⟨rfl, rfl⟩)
            | (go_at_call 57; refine (byte_is w.heap.size w.heap.size _ _ _ (.inr hbk) (by rw [bv_len]; simp [beB]; omega) hBk.size).mono ?_; rintro e w3 ⟨rfl, hb3, hB3⟩))
          go_roundw
          case rel =>
            refine ⟨k + 1, by omega, by go_num, ?_, hBk.trans hB3, ?_⟩
            · rw [htk]
              simpa [bv] using hb3
            · intro y hy
              rw [htk] at hy
              rcases List.mem_append.1 hy with hy | hy
              · exact hok y hy
              · simp at hy; subst hy; exact hz
          case measure => simp [intOf]; omega
        · have d1 : decide (0 ≤ z ∧ z ≤ 7) = false := by simpa using hz
          go_wp2_with (first
            | (go_at_call 46; refine (in_is _ _ _ _).mono ?_; rintro e w' ⟨rfl, rfl⟩))
          go_ret2
          exact ⟨Kept.of_below hBk (fun k h1 h2 => by omega), .inr (.inl ⟨⟨by omega, fun h => hz (h z hmem)⟩, rfl⟩)⟩
      · obtain rfl : k = n := by omega
        rw [List.take_of_length_le (by omega)] at hbk hok
        have hoct : Octs (beB k 2 ++ zs) := octs_app (beB_octs k 2) hok.octs
        have hbc := u8s_cells _ hoct
        change _ = bv _ at hbc
        rw [← hbc] at hbk
        have Hbc := Lib.hid hbc
        clear hbc
        go_wp2_with fail
        refine (Tryz.Builder_String_any w.heap.size w.heap.size _ _ (.inr hbk) hBk.size).mono ?_
        rintro e w3 ⟨rfl, hB3⟩
        have hB4 := hBk.trans hB3
        obtain ⟨hcv, hsg⟩ := conv_bytes (P := Tryz.prog) w3 9 28 5 ⟨(u8s (beB k 2 ++ zs)).toArray⟩ Tryz.underlying9 Tryz.underlying28 Tryz.underlying5 (by unfold maxLen; simp [ByteArray.size, u8s, beB]; omega)
        have hkb := kept_bytes w3 5 ⟨(u8s (beB k 2 ++ zs)).toArray⟩
        have Hsg := Lib.hid hsg
        clear hsg
        go_wp2_with fail
        go_ret2
        refine ⟨(Kept.of_below hB4 (fun k h1 h2 => by omega)).trans hkb (fun _ _ f => f), .inr (.inr ⟨⟨by omega, hok⟩, _, rfl, ?_⟩)⟩
        have h2 := Hsg.out.mono hB4.size
        have e2 : (⟨(u8s (beB k 2 ++ zs)).toArray⟩ : ByteArray).size = k + 2 := by simp [ByteArray.size, u8s, beB]; omega
        rw [e2] at h2
        have el : (u8s (beB k 2 ++ zs)).length = k + 2 := by simp [u8s, beB]; omega
        rw [← Hbc.out]
        change Seg _ _ _ _ (.slice (some ⟨w3.heap.size, 0, none⟩) (u8s (beB k 2 ++ zs)).length (grownCap w3 (u8s (beB k 2 ++ zs)).length 0 5)) _ _
        rw [el]
        exact h2
end Go.Proofs.YtaffaliplmfagaaGreatDoor.Pick
