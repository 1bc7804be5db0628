/-
  Keys, plainly: among some, alike, one more: what the statement's own reference says.
-/
import Derived.Test.YtnggbfdnlmkklaaDoorKeyNil
import Derived.Test.YtnggbfdnlmkklaaDoorKeyLess
import Derived.BigQuiet
set_option linter.unusedVariables false
namespace Go.Proofs.YtnggbfdnlmkklaaDoor.Line
open Go.RowKit Go.Sort Go.Proofs.YtnggbfdnlmkklaaDoor.Own Go.Proofs.YtnggbfdnlmkklaaDoor.Conv Go.Proofs.YtnggbfdnlmkklaaDoor.Calm

theorem key_eq (x y : K3) : (x == y) = (x.1 == y.1 && (x.2.1 == y.2.1 && x.2.2 == y.2.2)) := rfl
/-- Three cells, in whatever world behind draws. -/
theorem key_cells {w : World} {v : Value} {n : Nat} {xs : List K3} {a : Option Addr} {c : Nat} (h : Rd w 3 v n (keyV xs)) (he : v = .slice a n c) (m : Nat) (x : K3) (hm : xs[m]? = some x) :
    ∃ g o, a = some ⟨g, o, none⟩ ∧ g < w.heap.size ∧ w.cell? ⟨g, o + m * 3, none⟩ = some (.int .i64 x.1) ∧ w.cell? ⟨g, o + m * 3 + 1, none⟩ = some (.int .i64 x.2.1) ∧ w.cell? ⟨g, o + m * 3 + 2, none⟩ = some (.int .i64 x.2.2) := by
  obtain ⟨hl, a', c', he', _, _, _, hR⟩ := h
  rw [he] at he'
  cases he'
  have hlt := (List.getElem?_eq_some_iff.1 hm).1
  rw [keyV_len] at hl
  obtain ⟨g, o, rfl, hg, hcell⟩ := hR (by omega)
  obtain ⟨p1, p2, p3⟩ := keyV_at xs m x hm
  exact ⟨g, o, rfl, hg, hcell _ _ p1, hcell _ _ p2, hcell _ _ p3⟩

theorem key_slice {w : World} {v : Value} {n : Nat} {xs : List K3} (h : Rd w 3 v n (keyV xs)) : ∃ a c, v = .slice a n c ∧ n ≤ c ∧ c ≤ 9223372036854775807 := by
  obtain ⟨_, a, c, he, h1, h2, _⟩ := h
  unfold maxLen at h2
  exact ⟨a, c, he, h1, by omega⟩

set_option maxRecDepth 100000 in
set_option maxHeartbeats 4000000 in
theorem phas_is (w : World) (v : Value) (n : Nat) (xs : List K3) (hx : Rd w 3 v n (keyV xs)) (k1 k2 k3 : Int) :
    Calls Tryd.prog 17 #[v, .agg #[.int .i64 k1, .int .i64 k2, .int .i64 k3]] w fun e w' => e = .returned (.bool (decide ((k1, k2, k3) ∈ xs))) ∧ Kept No w w' := by
  have hlen : xs.length = n := by have := hx.len; rw [keyV_len] at this; omega
  obtain ⟨av, cv, rfl, hnc, hcm⟩ := key_slice hx
  obtain ⟨bo, hbo⟩ : ∃ b, decide ((k1, k2, k3) ∈ xs) = b := ⟨_, rfl⟩
  rw [hbo]
  have HBO := Lib.hid hbo
  have hk0 : Kept No w (w.alloc (.cells #[.int .i64 k1, .int .i64 k2, .int .i64 k3] 23)) := (Kept.refl _ _).alloc _
  have hb0 := Box.new w #[.int .i64 k1, .int .i64 k2, .int .i64 k3] 23
  have HX := Lib.hid hx
  have HL := Lib.hid hlen
  clear hx hlen hbo
  go_enter Tryd.func17, Tryd.ntmps17
  go_wp2_with fail
  go_loopw [5] (fun i wr => ∃ m : Nat, m ≤ n ∧ i = .int .i64 m ∧ Hid ((k1, k2, k3) ∉ xs.take m) ∧ Box wr w.heap.size #[.int .i64 k1, .int .i64 k2, .int .i64 k3] 23 ∧ Kept No w wr) (fun i _ => n - (intOf i).toNat)
  case atStart => exact ⟨0, by omega, rfl, Lib.hid (by simp), hb0, hk0⟩
  case round =>
    obtain ⟨m, hm, rfl, HN, hb, hK⟩ := hrel
    clear hb0 hk0
    by_cases hlt : m < n
    · obtain ⟨x, hxm⟩ : ∃ x, xs[m]? = some x := ⟨_, List.getElem?_eq_getElem (by have := HL.out; omega)⟩
      obtain ⟨g, o, rfl, hg, e1, e2, e3⟩ := key_cells (HX.out.kept hK (fun _ _ f => f)) rfl m x hxm
      obtain ⟨x1, x2, x3⟩ := x
      have c1 : ∀ nq, (wr.drewN nq).cell? ⟨g, o + m * 3, none⟩ = some (.int .i64 x1) := fun _ => e1
      have c2 : ∀ nq, (wr.drewN nq).cell? ⟨g, o + m * 3 + 1, none⟩ = some (.int .i64 x2) := fun _ => e2
      have c3 : ∀ nq, (wr.drewN nq).cell? ⟨g, o + m * 3 + 2, none⟩ = some (.int .i64 x3) := fun _ => e3
      have d1 : ∀ nq, (wr.drewN nq).cell? ⟨w.heap.size, 0, none⟩ = some (.int .i64 k1) := fun _ => hb.cell 0
      have d2 : ∀ nq, (wr.drewN nq).cell? ⟨w.heap.size, 1, none⟩ = some (.int .i64 k2) := fun _ => hb.cell 1
      have d3 : ∀ nq, (wr.drewN nq).cell? ⟨w.heap.size, 2, none⟩ = some (.int .i64 k3) := fun _ => hb.cell 2
      have j1 : (m : Int) < (n : Int) := by omega
      have HXM := Lib.hid hxm
      clear e1 e2 e3 hxm
      by_cases hq : x1 = k1 ∧ x2 = k2 ∧ x3 = k3
      · obtain ⟨rfl, rfl, rfl⟩ := hq
        have ht : bo = true := by rw [← HBO.out]; exact decide_eq_true (List.mem_of_getElem? HXM.out)
        subst ht
        go_wp2_with fail
        refine wp_region_quiet_lit (by kernel_rfl) (by kernel_rfl) ?_
        repeat (go_big_quiet_step (fail))
        refine wpQuiet_nil ?_
        rintro _ ⟨nq, rfl⟩
        go_wp2_with fail
        go_ret
        exact ⟨rfl, hK.drewN nq⟩
      · have HNX : Hid ((k1, k2, k3) ∉ xs.take (m + 1)) := Lib.hid (by
          rw [List.take_add_one, HXM.out]
          intro h
          rcases List.mem_append.1 h with h | h
          · exact HN.out h
          · simp only [Option.toList_some, List.mem_singleton, Prod.mk.injEq] at h
            exact hq ⟨h.1.symm, h.2.1.symm, h.2.2.symm⟩)
        have hqq : (x1 == k1 && (x2 == k2 && x3 == k3)) = false := by
          cases h : (x1 == k1 && (x2 == k2 && x3 == k3))
          · rfl
          · simp only [Bool.and_eq_true, beq_iff_eq] at h
            exact absurd ⟨h.1, h.2.1, h.2.2⟩ hq
        have K : ∀ P : Prop, ((x1 == k1) = false → P) → ((x1 == k1) = true → (x2 == k2) = false → P) → ((x1 == k1) = true → (x2 == k2) = true → (x3 == k3) = false → P) → P := fun P a b c => by
          cases h1 : (x1 == k1)
          · exact a h1
          · cases h2 : (x2 == k2)
            · exact b h1 h2
            · exact c h1 h2 (by rw [h1, h2] at hqq; simpa using hqq)
        clear hq hqq HN
        refine K _ (fun h1 => ?_) (fun h1 h2 => ?_) (fun h1 h2 h3 => ?_)
        all_goals
          clear K
          go_wp2_with fail
          refine wp_region_quiet_lit (by kernel_rfl) (by kernel_rfl) ?_
          repeat (go_big_quiet_step (fail))
          refine wpQuiet_nil ?_
          rintro _ ⟨nq, rfl⟩
          have hK2 := hK.drewN nq
          have hb2 : Box (wr.drewN nq) w.heap.size #[.int .i64 k1, .int .i64 k2, .int .i64 k3] 23 := hb
          go_wp2_with fail
          go_roundw
          case rel => exact ⟨m + 1, by omega, by go_num, HNX, hb2, hK2⟩
          case measure => simp [intOf]; omega
    · obtain rfl : m = n := by omega
      have ht : bo = false := by
        rw [← HBO.out]
        have := HN.out
        rw [List.take_of_length_le (by have := HL.out; omega)] at this
        exact decide_eq_false this
      subst ht
      go_wp2_with fail
      go_ret
      exact ⟨rfl, hK⟩

set_option maxRecDepth 100000 in
set_option maxHeartbeats 4000000 in
theorem pkeys_is (w : World) (v u : Value) (n m : Nat) (xs ys : List K3) (hx : Rd w 3 v n (keyV xs)) (hy : Rd w 3 u m (keyV ys)) :
    Calls Tryd.prog 18 #[v, u] w fun e w' => e = .returned (.bool (decide (xs = ys))) ∧ Kept No w w' := by
  have hlen : xs.length = n := by have := hx.len; rw [keyV_len] at this; omega
  have hlen2 : ys.length = m := by have := hy.len; rw [keyV_len] at this; omega
  obtain ⟨av, cv, rfl, hnc, hcm⟩ := key_slice hx
  obtain ⟨au, cu, rfl, hnu, hcu⟩ := key_slice hy
  obtain ⟨bo, hbo⟩ : ∃ b, decide (xs = ys) = b := ⟨_, rfl⟩
  rw [hbo]
  have HBO := Lib.hid hbo
  have HX := Lib.hid hx
  have HY := Lib.hid hy
  have HL := Lib.hid hlen
  have HL2 := Lib.hid hlen2
  clear hx hy hlen hlen2 hbo
  go_enter Tryd.func18, Tryd.ntmps18
  by_cases hnm : n = m
  · subst hnm
    have hb : ((n : Int) != (n : Int)) = false := by simp
    go_wp2_with fail
    go_loopw [5] (fun i wr => ∃ m : Nat, m ≤ n ∧ i = .int .i64 m ∧ Hid (xs.take m = ys.take m) ∧ Kept No w wr) (fun i _ => n - (intOf i).toNat)
    case atStart => exact ⟨0, by omega, rfl, Lib.hid (by simp), Kept.refl _ _⟩
    case round =>
      obtain ⟨m, hm, rfl, HN, hK⟩ := hrel
      by_cases hlt : m < n
      · obtain ⟨x, hxm⟩ : ∃ x, xs[m]? = some x := ⟨_, List.getElem?_eq_getElem (by have := HL.out; omega)⟩
        obtain ⟨y, hym⟩ : ∃ y, ys[m]? = some y := ⟨_, List.getElem?_eq_getElem (by have := HL2.out; omega)⟩
        obtain ⟨g, o, rfl, hg, e1, e2, e3⟩ := key_cells (HX.out.kept hK (fun _ _ f => f)) rfl m x hxm
        obtain ⟨g2, o2, rfl, hg2, f1, f2, f3⟩ := key_cells (HY.out.kept hK (fun _ _ f => f)) rfl m y hym
        obtain ⟨x1, x2, x3⟩ := x
        obtain ⟨y1, y2, y3⟩ := y
        have c1 : ∀ nq, (wr.drewN nq).cell? ⟨g, o + m * 3, none⟩ = some (.int .i64 x1) := fun _ => e1
        have c2 : ∀ nq, (wr.drewN nq).cell? ⟨g, o + m * 3 + 1, none⟩ = some (.int .i64 x2) := fun _ => e2
        have c3 : ∀ nq, (wr.drewN nq).cell? ⟨g, o + m * 3 + 2, none⟩ = some (.int .i64 x3) := fun _ => e3
        have d1 : ∀ nq, (wr.drewN nq).cell? ⟨g2, o2 + m * 3, none⟩ = some (.int .i64 y1) := fun _ => f1
        have d2 : ∀ nq, (wr.drewN nq).cell? ⟨g2, o2 + m * 3 + 1, none⟩ = some (.int .i64 y2) := fun _ => f2
        have d3 : ∀ nq, (wr.drewN nq).cell? ⟨g2, o2 + m * 3 + 2, none⟩ = some (.int .i64 y3) := fun _ => f3
        have j1 : (m : Int) < (n : Int) := by omega
        have HXM := Lib.hid hxm
        have HYM := Lib.hid hym
        clear e1 e2 e3 f1 f2 f3 hxm hym
        by_cases hq : x1 = y1 ∧ x2 = y2 ∧ x3 = y3
        · obtain ⟨rfl, rfl, rfl⟩ := hq
          have HNX : Hid (xs.take (m + 1) = ys.take (m + 1)) := Lib.hid (by rw [List.take_add_one, List.take_add_one, HXM.out, HYM.out, HN.out])
          clear HN
          go_wp2_with fail
          refine wp_region_quiet_lit (by kernel_rfl) (by kernel_rfl) ?_
          repeat (go_big_quiet_step (fail))
          refine wpQuiet_nil ?_
          rintro _ ⟨nq, rfl⟩
          have hK2 := hK.drewN nq
          go_wp2_with fail
          go_roundw
          case rel => exact ⟨m + 1, by omega, by go_num, HNX, hK2⟩
          case measure => simp [intOf]; omega
        · have ht : bo = false := by
            rw [← HBO.out]
            refine decide_eq_false fun e => hq ?_
            have := HXM.out.symm.trans ((congrArg (fun l => l[m]?) e).trans HYM.out)
            simp only [Option.some.injEq, Prod.mk.injEq] at this
            exact this
          subst ht
          have hqq : (x1 == y1 && (x2 == y2 && x3 == y3)) = false := by
            cases h : (x1 == y1 && (x2 == y2 && x3 == y3))
            · rfl
            · simp only [Bool.and_eq_true, beq_iff_eq] at h
              exact absurd ⟨h.1, h.2.1, h.2.2⟩ hq
          have K : ∀ P : Prop, ((x1 == y1) = false → P) → ((x1 == y1) = true → (x2 == y2) = false → P) → ((x1 == y1) = true → (x2 == y2) = true → (x3 == y3) = false → P) → P := fun P a b c => by
            cases h1 : (x1 == y1)
            · exact a h1
            · cases h2 : (x2 == y2)
              · exact b h1 h2
              · exact c h1 h2 (by rw [h1, h2] at hqq; simpa using hqq)
          clear hq hqq
          refine K _ (fun h1 => ?_) (fun h1 h2 => ?_) (fun h1 h2 h3 => ?_)
          all_goals
            clear K
            go_wp2_with fail
            refine wp_region_quiet_lit (by kernel_rfl) (by kernel_rfl) ?_
            repeat (go_big_quiet_step (fail))
            refine wpQuiet_nil ?_
            rintro _ ⟨nq, rfl⟩
            have hK2 := hK.drewN nq
            go_wp2_with fail
            go_ret
            exact ⟨rfl, hK2⟩
      · obtain rfl : m = n := by omega
        have ht : bo = true := by
          rw [← HBO.out]
          have := HN.out
          rw [List.take_of_length_le (by have := HL.out; omega), List.take_of_length_le (by have := HL2.out; omega)] at this
          exact decide_eq_true this
        subst ht
        go_wp2_with fail
        go_ret
        exact ⟨rfl, hK⟩
  · have hb : ((n : Int) != (m : Int)) = true := by simp; omega
    have ht : bo = false := by
      rw [← HBO.out]
      exact decide_eq_false fun e => hnm (by rw [← HL.out, ← HL2.out, e])
    subst ht
    go_wp2_with fail
    go_ret
    exact ⟨rfl, Kept.refl _ _⟩

set_option maxRecDepth 100000 in
set_option maxHeartbeats 4000000 in
theorem equal_is (w : World) (v u : Value) (n m : Nat) (xs ys : List K3) (hx : Rd w 3 v n (keyV xs)) (hy : Rd w 3 u m (keyV ys)) :
    Calls Tryd.prog 33 #[v, u] w fun e w' => e = .returned (.bool (decide (xs = ys))) ∧ Kept No w w' := by
  have hlen : xs.length = n := by have := hx.len; rw [keyV_len] at this; omega
  have hlen2 : ys.length = m := by have := hy.len; rw [keyV_len] at this; omega
  obtain ⟨av, cv, rfl, hnc, hcm⟩ := key_slice hx
  obtain ⟨au, cu, rfl, hnu, hcu⟩ := key_slice hy
  obtain ⟨bo, hbo⟩ : ∃ b, decide (xs = ys) = b := ⟨_, rfl⟩
  rw [hbo]
  have HBO := Lib.hid hbo
  have HX := Lib.hid hx
  have HY := Lib.hid hy
  have HL := Lib.hid hlen
  have HL2 := Lib.hid hlen2
  clear hx hy hlen hlen2 hbo
  go_enter Tryd.func33, Tryd.ntmps33
  by_cases hnm : n = m
  · subst hnm
    have hb : ((n : Int) != (n : Int)) = false := by simp
    go_wp2_with fail
    go_loopw [13] (fun i wr => ∃ m : Nat, m ≤ n ∧ i = .int .i64 m ∧ Hid (xs.take m = ys.take m) ∧ Kept No w wr) (fun i _ => n - (intOf i).toNat)
    case atStart => exact ⟨0, by omega, rfl, Lib.hid (by simp), Kept.refl _ _⟩
    case round =>
      obtain ⟨m, hm, rfl, HN, hK⟩ := hrel
      by_cases hlt : m < n
      · obtain ⟨x, hxm⟩ : ∃ x, xs[m]? = some x := ⟨_, List.getElem?_eq_getElem (by have := HL.out; omega)⟩
        obtain ⟨y, hym⟩ : ∃ y, ys[m]? = some y := ⟨_, List.getElem?_eq_getElem (by have := HL2.out; omega)⟩
        obtain ⟨g, o, rfl, hg, e1, e2, e3⟩ := key_cells (HX.out.kept hK (fun _ _ f => f)) rfl m x hxm
        obtain ⟨g2, o2, rfl, hg2, f1, f2, f3⟩ := key_cells (HY.out.kept hK (fun _ _ f => f)) rfl m y hym
        obtain ⟨x1, x2, x3⟩ := x
        obtain ⟨y1, y2, y3⟩ := y
        have c1 : ∀ nq, (wr.drewN nq).cell? ⟨g, o + m * 3, none⟩ = some (.int .i64 x1) := fun _ => e1
        have c2 : ∀ nq, (wr.drewN nq).cell? ⟨g, o + m * 3 + 1, none⟩ = some (.int .i64 x2) := fun _ => e2
        have c3 : ∀ nq, (wr.drewN nq).cell? ⟨g, o + m * 3 + 2, none⟩ = some (.int .i64 x3) := fun _ => e3
        have d1 : ∀ nq, (wr.drewN nq).cell? ⟨g2, o2 + m * 3, none⟩ = some (.int .i64 y1) := fun _ => f1
        have d2 : ∀ nq, (wr.drewN nq).cell? ⟨g2, o2 + m * 3 + 1, none⟩ = some (.int .i64 y2) := fun _ => f2
        have d3 : ∀ nq, (wr.drewN nq).cell? ⟨g2, o2 + m * 3 + 2, none⟩ = some (.int .i64 y3) := fun _ => f3
        have j1 : (m : Int) < (n : Int) := by omega
        have HXM := Lib.hid hxm
        have HYM := Lib.hid hym
        clear e1 e2 e3 f1 f2 f3 hxm hym
        by_cases hq : x1 = y1 ∧ x2 = y2 ∧ x3 = y3
        · obtain ⟨rfl, rfl, rfl⟩ := hq
          have HNX : Hid (xs.take (m + 1) = ys.take (m + 1)) := Lib.hid (by rw [List.take_add_one, List.take_add_one, HXM.out, HYM.out, HN.out])
          clear HN
          go_wp2_with fail
          refine wp_region_quiet_lit (by kernel_rfl) (by kernel_rfl) ?_
          repeat (go_big_quiet_step (fail))
          refine wpQuiet_nil ?_
          rintro _ ⟨nq, rfl⟩
          have hK2 := hK.drewN nq
          go_wp2_with fail
          go_roundw
          case rel => exact ⟨m + 1, by omega, by go_num, HNX, hK2⟩
          case measure => simp [intOf]; omega
        · have ht : bo = false := by
            rw [← HBO.out]
            refine decide_eq_false fun e => hq ?_
            have := HXM.out.symm.trans ((congrArg (fun l => l[m]?) e).trans HYM.out)
            simp only [Option.some.injEq, Prod.mk.injEq] at this
            exact this
          subst ht
          have hqq : (x1 == y1 && (x2 == y2 && x3 == y3)) = false := by
            cases h : (x1 == y1 && (x2 == y2 && x3 == y3))
            · rfl
            · simp only [Bool.and_eq_true, beq_iff_eq] at h
              exact absurd ⟨h.1, h.2.1, h.2.2⟩ hq
          have K : ∀ P : Prop, ((x1 == y1) = false → P) → ((x1 == y1) = true → (x2 == y2) = false → P) → ((x1 == y1) = true → (x2 == y2) = true → (x3 == y3) = false → P) → P := fun P a b c => by
            cases h1 : (x1 == y1)
            · exact a h1
            · cases h2 : (x2 == y2)
              · exact b h1 h2
              · exact c h1 h2 (by rw [h1, h2] at hqq; simpa using hqq)
          clear hq hqq
          refine K _ (fun h1 => ?_) (fun h1 h2 => ?_) (fun h1 h2 h3 => ?_)
          all_goals
            clear K
            go_wp2_with fail
            refine wp_region_quiet_lit (by kernel_rfl) (by kernel_rfl) ?_
            repeat (go_big_quiet_step (fail))
            refine wpQuiet_nil ?_
            rintro _ ⟨nq, rfl⟩
            have hK2 := hK.drewN nq
            go_wp2_with fail
            go_ret
            exact ⟨rfl, hK2⟩
      · obtain rfl : m = n := by omega
        have ht : bo = true := by
          rw [← HBO.out]
          have := HN.out
          rw [List.take_of_length_le (by have := HL.out; omega), List.take_of_length_le (by have := HL2.out; omega)] at this
          exact decide_eq_true this
        subst ht
        go_wp2_with fail
        go_ret
        exact ⟨rfl, hK⟩
  · have hb : ((n : Int) != (m : Int)) = true := by simp; omega
    have ht : bo = false := by
      rw [← HBO.out]
      exact decide_eq_false fun e => hnm (by rw [← HL.out, ← HL2.out, e])
    subst ht
    go_wp2_with fail
    go_ret
    exact ⟨rfl, Kept.refl _ _⟩

theorem same_is (w : World) (v u : Value) (n m : Nat) (xs ys : List K3) (hx : Rd w 3 v n (keyV xs)) (hy : Rd w 3 u m (keyV ys)) :
    Calls Tryd.prog 19 #[v, u] w fun e w' => e = .returned (.bool (decide (xs = ys))) ∧ Kept No w w' := by
  obtain ⟨bo, hbo⟩ : ∃ b, decide (xs = ys) = b := ⟨_, rfl⟩
  have he := equal_is w v u n m xs ys hx hy
  rw [hbo] at he ⊢
  have HE := Lib.hid he
  clear hx hy he hbo
  go_enter Tryd.func19, Tryd.ntmps19
  go_wp2_with fail
  refine HE.out.mono ?_
  rintro e w1 ⟨rfl, k1⟩
  go_wp2_with fail
  go_ret
  exact ⟨rfl, k1⟩
end Go.Proofs.YtnggbfdnlmkklaaDoor.Line
