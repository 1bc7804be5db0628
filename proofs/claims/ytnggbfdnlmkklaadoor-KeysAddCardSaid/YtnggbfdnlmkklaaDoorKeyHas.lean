/-
  Whether a key is among some.
-/
import Derived.Test.YtnggbfdnlmkklaaDoorKey
set_option linter.unusedVariables false
namespace Go.Proofs.YtnggbfdnlmkklaaDoor.Line
open Go.RowKit Go.Sort Go.Proofs.YtnggbfdnlmkklaaDoor.Own Go.Proofs.YtnggbfdnlmkklaaDoor.Conv Go.Proofs.YtnggbfdnlmkklaaDoor.Calm

/-- Keys as cells. -/
def keyV (xs : List K3) : List Value := vals (xs.flatMap fun x => [x.1, x.2.1, x.2.2])
theorem keyV_len (xs : List K3) : (keyV xs).length = xs.length * 3 := by
  unfold keyV
  rw [vals_len]
  induction xs with
  | nil => rfl
  | cons x r ih => simp [List.flatMap_cons, ih]; omega
theorem keyV_app (xs ys : List K3) : keyV (xs ++ ys) = keyV xs ++ keyV ys := by simp [keyV, vals_app]
theorem keyV_one (x : K3) : keyV [x] = [.int .i64 x.1, .int .i64 x.2.1, .int .i64 x.2.2] := rfl
theorem keyV_at : ∀ (xs : List K3) (k : Nat) (x : K3), xs[k]? = some x → (keyV xs)[k * 3]? = some (.int .i64 x.1) ∧ (keyV xs)[k * 3 + 1]? = some (.int .i64 x.2.1) ∧ (keyV xs)[k * 3 + 2]? = some (.int .i64 x.2.2)
  | [], k, x, h => by simp at h
  | y :: r, 0, x, h => by
    simp only [List.getElem?_cons_zero, Option.some.injEq] at h
    subst h
    exact ⟨rfl, rfl, rfl⟩
  | y :: r, k + 1, x, h => by
    obtain ⟨h1, h2, h3⟩ := keyV_at r k x (by simpa using h)
    have e : keyV (y :: r) = .int .i64 y.1 :: .int .i64 y.2.1 :: .int .i64 y.2.2 :: keyV r := rfl
    rw [e]
    rw [show (k + 1) * 3 = k * 3 + 1 + 1 + 1 by omega, show k * 3 + 1 + 1 + 1 + 1 = (k * 3 + 1) + 1 + 1 + 1 by omega, show k * 3 + 1 + 1 + 1 + 2 = (k * 3 + 2) + 1 + 1 + 1 by omega]
    simp only [List.getElem?_cons_succ]
    exact ⟨h1, h2, h3⟩

set_option maxHeartbeats 4000000 in
theorem index_is (w : World) (v : Value) (n : Nat) (xs : List K3) (hx : Rd w 3 v n (keyV xs)) (x : K3) :
    Calls Tryd.prog 42 #[v, .agg #[.int .i64 x.1, .int .i64 x.2.1, .int .i64 x.2.2]] w fun e w' => (∃ z : Int, e = .returned (.int .i64 z) ∧ ((x ∈ xs ∧ 0 ≤ z) ∨ (x ∉ xs ∧ z = -1))) ∧ Kept No w w' := by
  obtain ⟨hl, ao, lc, rfl, hc, hm, hn, hR⟩ := hx
  rw [keyV_len] at hl
  have hl1 : xs.length ≤ n := by omega
  have hl2 : n ≤ xs.length := by omega
  unfold maxLen at hm
  have HR := Lib.hid hR
  have hk0 : Kept No w (w.alloc (.cells #[.int .i64 x.1, .int .i64 x.2.1, .int .i64 x.2.2] 23)) := (Kept.refl _ _).alloc _
  have hb0 := Box.new w #[.int .i64 x.1, .int .i64 x.2.1, .int .i64 x.2.2] 23
  clear hR hl
  go_enter Tryd.func42, Tryd.ntmps42
  go_wp2_with fail
  go_loopw [8] (fun i wr => ∃ k : Nat, k ≤ n ∧ i = .int .i64 k ∧ Hid (x ∉ xs.take k) ∧ Kept No w wr ∧ Box wr w.heap.size #[.int .i64 x.1, .int .i64 x.2.1, .int .i64 x.2.2] 23) (fun i _ => n - (intOf i).toNat)
  case atStart => exact ⟨0, by omega, rfl, Lib.hid (by simp), hk0, hb0⟩
  case round =>
    obtain ⟨k, hk, rfl, hnm, hK, hbx⟩ := hrel
    by_cases hlt : k < n
    · obtain ⟨g, o, rfl, hg, hcell⟩ := HR.out (by omega)
      obtain ⟨y, hy⟩ : ∃ y, xs[k]? = some y := ⟨_, List.getElem?_eq_getElem (by omega)⟩
      obtain ⟨p1, p2, p3⟩ := keyV_at xs k y hy
      have e1 : wr.cell? ⟨g, o + k * 3, none⟩ = some (.int .i64 y.1) := (hK.cell (p := ⟨g, o + k * 3, none⟩) hg id).trans (hcell _ _ p1)
      have e2 : wr.cell? ⟨g, o + k * 3 + 1, none⟩ = some (.int .i64 y.2.1) := (hK.cell (p := ⟨g, o + k * 3 + 1, none⟩) hg id).trans (hcell _ _ p2)
      have e3 : wr.cell? ⟨g, o + k * 3 + 2, none⟩ = some (.int .i64 y.2.2) := (hK.cell (p := ⟨g, o + k * 3 + 2, none⟩) hg id).trans (hcell _ _ p3)
      have d1 : wr.cell? ⟨w.heap.size, 0, none⟩ = some (.int .i64 x.1) := hbx.cell 0
      have d2 : wr.cell? ⟨w.heap.size, 1, none⟩ = some (.int .i64 x.2.1) := hbx.cell 1
      have d3 : wr.cell? ⟨w.heap.size, 2, none⟩ = some (.int .i64 x.2.2) := hbx.cell 2
      have hd : xs.take (k + 1) = xs.take k ++ [y] := by rw [List.take_add_one, hy]; rfl
      have HD := Lib.hid hd
      have HY := Lib.hid hy
      have i0 : (0 : Int) ≤ (k : Int) := by omega
      have i1 : (k : Int) < (n : Int) := by omega
      clear hcell p1 p2 p3 hd hy
      by_cases hxy : x = y
      · subst hxy
        have HBT : Hid (x ∈ xs) := Lib.hid (List.mem_of_getElem? HY.out)
        go_wp2_with fail
        refine wp_region_quiet_lit (by kernel_rfl) (by kernel_rfl) ?_
        repeat (go_big_quiet_step (fail))
        refine wpQuiet_nil ?_
        rintro _ ⟨nq, rfl⟩
        go_wp2_with fail
        go_ret
        exact ⟨⟨_, rfl, .inl ⟨HBT.out, i0⟩⟩, hK.drewN nq⟩
      · obtain ⟨x1, x2, x3⟩ := x
        obtain ⟨y1, y2, y3⟩ := y
        have HNM : Hid ((x1, x2, x3) ∉ xs.take (k + 1)) := Lib.hid (by
          rw [HD.out]
          intro h
          rcases List.mem_append.1 h with h | h
          · exact hnm.out h
          · exact hxy (List.mem_singleton.1 h))
        simp only [Prod.mk.injEq] at hxy
        simp only at e1 e2 e3 d1 d2 d3 hbx
        clear HD hnm HY
        by_cases a1 : x1 = y1
        · subst a1
          by_cases a2 : x2 = y2
          · subst a2
            have a3 : ¬ x3 = y3 := fun h => hxy ⟨rfl, rfl, h⟩
            clear hxy
            go_wp2_with fail
            refine wp_region_quiet_lit (by kernel_rfl) (by kernel_rfl) ?_
            repeat (go_big_quiet_step (fail))
            refine wpQuiet_nil ?_
            rintro _ ⟨nq, rfl⟩
            have hK2 := hK.drewN nq
            have hbx2 : Box (wr.drewN nq) w.heap.size #[.int .i64 x1, .int .i64 x2, .int .i64 x3] 23 := hbx
            go_wp2_with fail
            go_roundw
            case rel => exact ⟨k + 1, by omega, by go_num, HNM, hK2, hbx2⟩
            case measure => simp [intOf]; omega
          · clear hxy
            go_wp2_with fail
            refine wp_region_quiet_lit (by kernel_rfl) (by kernel_rfl) ?_
            repeat (go_big_quiet_step (fail))
            refine wpQuiet_nil ?_
            rintro _ ⟨nq, rfl⟩
            have hK2 := hK.drewN nq
            have hbx2 : Box (wr.drewN nq) w.heap.size #[.int .i64 x1, .int .i64 x2, .int .i64 x3] 23 := hbx
            go_wp2_with fail
            go_roundw
            case rel => exact ⟨k + 1, by omega, by go_num, HNM, hK2, hbx2⟩
            case measure => simp [intOf]; omega
        · clear hxy
          go_wp2_with fail
          refine wp_region_quiet_lit (by kernel_rfl) (by kernel_rfl) ?_
          repeat (go_big_quiet_step (fail))
          refine wpQuiet_nil ?_
          rintro _ ⟨nq, rfl⟩
          have hK2 := hK.drewN nq
          have hbx2 : Box (wr.drewN nq) w.heap.size #[.int .i64 x1, .int .i64 x2, .int .i64 x3] 23 := hbx
          go_wp2_with fail
          go_roundw
          case rel => exact ⟨k + 1, by omega, by go_num, HNM, hK2, hbx2⟩
          case measure => simp [intOf]; omega
    · obtain rfl : k = n := by omega
      have HBT : Hid (x ∉ xs) := Lib.hid (by have := hnm.out; rwa [List.take_of_length_le (by omega)] at this)
      go_wp2_with fail
      go_ret
      exact ⟨⟨_, rfl, .inr ⟨HBT.out, rfl⟩⟩, hK⟩

set_option maxHeartbeats 4000000 in
theorem contains_is (w : World) (v : Value) (n : Nat) (xs : List K3) (hx : Rd w 3 v n (keyV xs)) (x1 x2 x3 : Int) :
    Calls Tryd.prog 34 #[v, .agg #[.int .i64 x1, .int .i64 x2, .int .i64 x3]] w fun e w' => e = .returned (.bool (decide ((x1, x2, x3) ∈ xs))) ∧ Kept No w w' := by
  obtain ⟨b, hb⟩ : ∃ b, decide ((x1, x2, x3) ∈ xs) = b := ⟨_, rfl⟩
  rw [hb]
  have HB := Lib.hid hb
  clear hb
  have hk0 : Kept No w (w.alloc (.cells #[.int .i64 x1, .int .i64 x2, .int .i64 x3] 23)) := (Kept.refl _ _).alloc _
  have hb0 := Box.new w #[.int .i64 x1, .int .i64 x2, .int .i64 x3] 23
  have HX := Lib.hid (hx.kept hk0 (fun _ _ f => f))
  have HK := Lib.hid hk0
  clear hx hk0
  go_enter Tryd.func34, Tryd.ntmps34
  go_upto_region 1 with fail
  have HX1 := HX.out
  have HK1 := HK.out
  clear HX HK
  generalize w.alloc (.cells #[.int .i64 x1, .int .i64 x2, .int .i64 x3] 23) = w0 at *
  have c0 : w0.cell? ⟨w.heap.size, 0, none⟩ = some (.int .i64 x1) := hb0.cell 0
  have c1 : w0.cell? ⟨w.heap.size, 1, none⟩ = some (.int .i64 x2) := hb0.cell 1
  have c2 : w0.cell? ⟨w.heap.size, 2, none⟩ = some (.int .i64 x3) := hb0.cell 2
  have HX2 := Lib.hid HX1
  clear HX1
  go_wp2_with fail
  refine (index_is w0 v n xs HX2.out (x1, x2, x3)).mono ?_
  rintro e w1 ⟨⟨z, rfl, hz⟩, k1⟩
  have hk2 := HK1.trans k1 (fun _ _ f => f)
  rcases hz with ⟨hm, hz⟩ | ⟨hm, rfl⟩
  · obtain rfl : true = b := by rw [← HB.out]; simp [hm]
    clear HB hm c0 c1 c2
    go_wp2_with fail
    go_ret
    exact ⟨rfl, hk2⟩
  · obtain rfl : false = b := by rw [← HB.out]; simp [hm]
    clear HB hm c0 c1 c2
    go_wp2_with fail
    go_ret
    exact ⟨rfl, hk2⟩

set_option maxHeartbeats 4000000 in
theorem has_is (w : World) (v : Value) (n : Nat) (xs : List K3) (hx : Rd w 3 v n (keyV xs)) (x1 x2 x3 : Int) :
    Calls Tryd.prog 20 #[v, .agg #[.int .i64 x1, .int .i64 x2, .int .i64 x3]] w fun e w' => e = .returned (.bool (decide ((x1, x2, x3) ∈ xs))) ∧ Kept No w w' := by
  obtain ⟨b, hb⟩ : ∃ b, decide ((x1, x2, x3) ∈ xs) = b := ⟨_, rfl⟩
  rw [hb]
  have HB := Lib.hid hb
  clear hb
  have hk0 : Kept No w (w.alloc (.cells #[.int .i64 x1, .int .i64 x2, .int .i64 x3] 23)) := (Kept.refl _ _).alloc _
  have hb0 := Box.new w #[.int .i64 x1, .int .i64 x2, .int .i64 x3] 23
  have HX := Lib.hid (hx.kept hk0 (fun _ _ f => f))
  have HK := Lib.hid hk0
  clear hx hk0
  go_enter Tryd.func20, Tryd.ntmps20
  go_upto_region 1 with fail
  have HX1 := HX.out
  have HK1 := HK.out
  clear HX HK
  generalize w.alloc (.cells #[.int .i64 x1, .int .i64 x2, .int .i64 x3] 23) = w0 at *
  have c0 : w0.cell? ⟨w.heap.size, 0, none⟩ = some (.int .i64 x1) := hb0.cell 0
  have c1 : w0.cell? ⟨w.heap.size, 1, none⟩ = some (.int .i64 x2) := hb0.cell 1
  have c2 : w0.cell? ⟨w.heap.size, 2, none⟩ = some (.int .i64 x3) := hb0.cell 2
  have HX2 := Lib.hid HX1
  clear HX1
  go_wp2_with fail
  refine (contains_is w0 v n xs HX2.out x1 x2 x3).mono ?_
  rw [HB.out]
  rintro e w1 ⟨rfl, k1⟩
  have hk2 := HK1.trans k1 (fun _ _ f => f)
  clear c0 c1 c2
  go_wp2_with fail
  go_ret
  exact ⟨rfl, hk2⟩
end Go.Proofs.YtnggbfdnlmkklaaDoor.Line
