/-
  Package conf: the names; a config and an ask as a line.
-/
import Derived.Test.YtknpjhmgkogmaaaDoorConf3
import Derived.Test.YtknpjhmgkogmaaaDoorDyn
set_option linter.unusedVariables false
namespace Go.Proofs.YtknpjhmgkogmaaaDoor.Line
open Go.RowKit Go.Sort Go.Proofs.YtknpjhmgkogmaaaDoor.Own Go.Proofs.YtknpjhmgkogmaaaDoor.Conv Go.Proofs.YtknpjhmgkogmaaaDoor.Calm Go.Proofs.YtknpjhmgkogmaaaDoor.Oct

def schL : List (List UInt8) := [[109, 97, 110, 117, 97, 108], [104, 97, 122, 97, 114, 100], [101, 112, 111, 99, 104], [113, 117, 105, 101, 116]]
def ordL : List (List UInt8) := [[115, 99], [116, 115, 111]]
def modL : List (List UInt8) := [[102, 117, 108, 108], [100, 112, 111, 114], [99, 97, 99, 104, 101]]
def endL : List (List UInt8) := [[97, 108, 108], [115, 116, 111, 112]]
def schS : Array Value := #[.string ⟨#[109, 97, 110, 117, 97, 108]⟩, .string ⟨#[104, 97, 122, 97, 114, 100]⟩, .string ⟨#[101, 112, 111, 99, 104]⟩, .string ⟨#[113, 117, 105, 101, 116]⟩]
def ordS : Array Value := #[.string ⟨#[115, 99]⟩, .string ⟨#[116, 115, 111]⟩]
def modS : Array Value := #[.string ⟨#[102, 117, 108, 108]⟩, .string ⟨#[100, 112, 111, 114]⟩, .string ⟨#[99, 97, 99, 104, 101]⟩]
def endS : Array Value := #[.string ⟨#[97, 108, 108]⟩, .string ⟨#[115, 116, 111, 112]⟩]

theorem schemes_is (w : World) : Calls Tryd.prog 29 #[] w fun e w' => ∃ b, e = .returned (.slice (some ⟨b, 0, none⟩) 4 4) ∧ Box w' b schS 9 ∧ w.heap.size ≤ b ∧ Kept No w w' := by
  have hb := Box.new w schS 9
  have hk : Kept No w (w.alloc (.cells schS 9)) := (Kept.refl _ _).alloc _
  have HB := Lib.hid hb
  have HK := Lib.hid hk
  clear hb hk
  go_enter Tryd.func29, Tryd.ntmps29
  go_wp2_with fail
  go_ret
  exact ⟨w.heap.size, rfl, HB.out, Nat.le_refl _, HK.out⟩
theorem orders_is (w : World) : Calls Tryd.prog 30 #[] w fun e w' => ∃ b, e = .returned (.slice (some ⟨b, 0, none⟩) 2 2) ∧ Box w' b ordS 9 ∧ w.heap.size ≤ b ∧ Kept No w w' := by
  have hb := Box.new w ordS 9
  have hk : Kept No w (w.alloc (.cells ordS 9)) := (Kept.refl _ _).alloc _
  have HB := Lib.hid hb
  have HK := Lib.hid hk
  clear hb hk
  go_enter Tryd.func30, Tryd.ntmps30
  go_wp2_with fail
  go_ret
  exact ⟨w.heap.size, rfl, HB.out, Nat.le_refl _, HK.out⟩
theorem modes_is (w : World) : Calls Tryd.prog 31 #[] w fun e w' => ∃ b, e = .returned (.slice (some ⟨b, 0, none⟩) 3 3) ∧ Box w' b modS 9 ∧ w.heap.size ≤ b ∧ Kept No w w' := by
  have hb := Box.new w modS 9
  have hk : Kept No w (w.alloc (.cells modS 9)) := (Kept.refl _ _).alloc _
  have HB := Lib.hid hb
  have HK := Lib.hid hk
  clear hb hk
  go_enter Tryd.func31, Tryd.ntmps31
  go_wp2_with fail
  go_ret
  exact ⟨w.heap.size, rfl, HB.out, Nat.le_refl _, HK.out⟩
theorem ends_is (w : World) : Calls Tryd.prog 32 #[] w fun e w' => ∃ b, e = .returned (.slice (some ⟨b, 0, none⟩) 2 2) ∧ Box w' b endS 9 ∧ w.heap.size ≤ b ∧ Kept No w w' := by
  have hb := Box.new w endS 9
  have hk : Kept No w (w.alloc (.cells endS 9)) := (Kept.refl _ _).alloc _
  have HB := Lib.hid hb
  have HK := Lib.hid hk
  clear hb hk
  go_enter Tryd.func32, Tryd.ntmps32
  go_wp2_with fail
  go_ret
  exact ⟨w.heap.size, rfl, HB.out, Nat.le_refl _, HK.out⟩

theorem dee_is (n : Int) (h0 : -9223372036854775808 ≤ n) (h1 : n ≤ 9223372036854775807) (w : World) (hT : Door.Tabs w) :
    Calls Tryd.prog 26 #[.int .i64 n] w fun e w' => e = .returned (.string ⟨(Lib.itoa n).toArray⟩) ∧ Kept No w w' := by
  go_enter Tryd.func26, Tryd.ntmps26
  go_wp2_with fail
  refine (decimal_is n h0 h1 w hT).mono ?_
  rintro e w1 ⟨rfl, k1⟩
  go_wp2_with fail
  go_ret
  exact ⟨rfl, k1⟩

/-- The words of a config and an ask. -/
def confW (sc od th fu de mo bu : Int) (st : Bool) : List (List UInt8) :=
  [schL.getD sc.toNat [], ordL.getD od.toNat [], Lib.itoa th, Lib.itoa fu, Lib.itoa de, modL.getD (mo - 1).toNat [], Lib.itoa bu, endL.getD (if st then 1 else 0) []]

theorem schS_at (m : Nat) (h : m < 4) : schS[m]? = some (.string ⟨(schL.getD m []).toArray⟩) := by
  have : m = 0 ∨ m = 1 ∨ m = 2 ∨ m = 3 := by omega
  rcases this with rfl | rfl | rfl | rfl <;> rfl
theorem ordS_at (m : Nat) (h : m < 2) : ordS[m]? = some (.string ⟨(ordL.getD m []).toArray⟩) := by
  have : m = 0 ∨ m = 1 := by omega
  rcases this with rfl | rfl <;> rfl
theorem modS_at (m : Nat) (h : m < 3) : modS[m]? = some (.string ⟨(modL.getD m []).toArray⟩) := by
  have : m = 0 ∨ m = 1 ∨ m = 2 := by omega
  rcases this with rfl | rfl | rfl <;> rfl
theorem getD_le {L : List (List UInt8)} {b : Nat} (h : ∀ x ∈ L, x.length ≤ b) (k : Nat) : (L.getD k []).length ≤ b := by
  rw [List.getD_eq_getElem?_getD]
  cases hx : L[k]? with
  | none => simp
  | some x => exact h x (List.mem_of_getElem? hx)
theorem confW_len {sc od th fu de mo bu : Int} {st : Bool} (h1 : isCfg sc od th fu de = true) (h2 : isAsk mo bu = true) : (Lib.join (confW sc od th fu de mo bu st) [32]).length ≤ 1000 := by
  unfold isCfg at h1
  unfold isAsk at h2
  simp only [decide_eq_true_eq] at h1 h2
  have e1 := getD_le (L := schL) (b := 6) (by decide) sc.toNat
  have e2 := getD_le (L := ordL) (b := 6) (by decide) od.toNat
  have e3 := getD_le (L := modL) (b := 6) (by decide) (mo - 1).toNat
  have e4 := getD_le (L := endL) (b := 6) (by decide) (if st then 1 else 0)
  have f1 := Lib.itoa_length_le th (by omega) (by omega)
  have f2 := Lib.itoa_length_le fu (by omega) (by omega)
  have f3 := Lib.itoa_length_le de (by omega) (by omega)
  have f4 := Lib.itoa_length_le bu (by omega) (by omega)
  unfold confW
  generalize schL.getD sc.toNat [] = x1 at *
  generalize ordL.getD od.toNat [] = x2 at *
  generalize modL.getD (mo - 1).toNat [] = x3 at *
  generalize endL.getD (if st then 1 else 0) [] = x4 at *
  simp [Lib.join_cons, Lib.joinTail]
  omega

set_option maxRecDepth 100000 in
set_option maxHeartbeats 4000000 in
theorem line_no (sc od th fu de mo bu : Int) (st : Bool) (h : (isCfg sc od th fu de && isAsk mo bu) = false) (w : World) :
    Calls Tryd.prog 11 #[.agg #[.int .i64 sc, .int .i64 od, .int .i64 th, .int .i64 fu, .int .i64 de], .agg #[.int .i64 mo, .int .i64 bu, .bool st]] w fun e w' => e = .returned (.tuple #[.string ⟨#[]⟩, .int .i64 3]) ∧ Kept No w w' := by
  have hb := both_is sc od th fu de mo bu st
  rw [h] at hb
  have HB := Lib.hid hb
  have hbx := (Box.new w #[.int .i64 sc, .int .i64 od, .int .i64 th, .int .i64 fu, .int .i64 de] 23).alloc (.cells #[.int .i64 mo, .int .i64 bu, .bool st] 25)
  have hby := Box.new (w.alloc (.cells #[.int .i64 sc, .int .i64 od, .int .i64 th, .int .i64 fu, .int .i64 de] 23)) #[.int .i64 mo, .int .i64 bu, .bool st] 25
  have hk : Kept No w ((w.alloc (.cells #[.int .i64 sc, .int .i64 od, .int .i64 th, .int .i64 fu, .int .i64 de] 23)).alloc (.cells #[.int .i64 mo, .int .i64 bu, .bool st] 25)) := ((Kept.refl _ _).alloc _).alloc _
  simp only [World.size_alloc] at hby
  clear hb h
  go_enter Tryd.func11, Tryd.ntmps11
  go_upto_region 1 with fail
  generalize (w.alloc (.cells #[.int .i64 sc, .int .i64 od, .int .i64 th, .int .i64 fu, .int .i64 de] 23)).alloc (.cells #[.int .i64 mo, .int .i64 bu, .bool st] 25) = w0 at *
  have c0 : w0.cell? ⟨w.heap.size, 0, none⟩ = some (.int .i64 sc) := hbx.cell 0
  have c1 : w0.cell? ⟨w.heap.size, 1, none⟩ = some (.int .i64 od) := hbx.cell 1
  have c2 : w0.cell? ⟨w.heap.size, 2, none⟩ = some (.int .i64 th) := hbx.cell 2
  have c3 : w0.cell? ⟨w.heap.size, 3, none⟩ = some (.int .i64 fu) := hbx.cell 3
  have c4 : w0.cell? ⟨w.heap.size, 4, none⟩ = some (.int .i64 de) := hbx.cell 4
  have d0 : w0.cell? ⟨w.heap.size + 1, 0, none⟩ = some (.int .i64 mo) := hby.cell 0
  have d1 : w0.cell? ⟨w.heap.size + 1, 1, none⟩ = some (.int .i64 bu) := hby.cell 1
  have d2 : w0.cell? ⟨w.heap.size + 1, 2, none⟩ = some (.bool st) := hby.cell 2
  go_wp2_with fail
  refine (HB.out _).mono ?_
  rintro e w1 ⟨rfl, k1⟩
  have hk1 := hk.trans k1 (fun _ _ f => f)
  clear c0 c1 c2 c3 c4 d0 d1 d2 hbx hby hk k1
  go_wp2_with fail
  go_ret2
  exact ⟨rfl, hk1⟩

set_option maxRecDepth 100000 in
set_option maxHeartbeats 4000000 in
theorem line_yes (sc od th fu de mo bu : Int) (st : Bool) (h1 : isCfg sc od th fu de = true) (h2 : isAsk mo bu = true) (w : World) (hT : Door.Tabs w) :
    Calls Tryd.prog 11 #[.agg #[.int .i64 sc, .int .i64 od, .int .i64 th, .int .i64 fu, .int .i64 de], .agg #[.int .i64 mo, .int .i64 bu, .bool st]] w fun e w' => e = .returned (.tuple #[.string ⟨(Lib.join (confW sc od th fu de mo bu st) [32]).toArray⟩, .int .i64 0]) ∧ Kept No w w' := by
  have hb := both_is sc od th fu de mo bu st
  rw [h1, h2] at hb
  have HB := Lib.hid hb
  have hbx := (Box.new w #[.int .i64 sc, .int .i64 od, .int .i64 th, .int .i64 fu, .int .i64 de] 23).alloc (.cells #[.int .i64 mo, .int .i64 bu, .bool st] 25)
  have hby := Box.new (w.alloc (.cells #[.int .i64 sc, .int .i64 od, .int .i64 th, .int .i64 fu, .int .i64 de] 23)) #[.int .i64 mo, .int .i64 bu, .bool st] 25
  have hk : Kept No w ((w.alloc (.cells #[.int .i64 sc, .int .i64 od, .int .i64 th, .int .i64 fu, .int .i64 de] 23)).alloc (.cells #[.int .i64 mo, .int .i64 bu, .bool st] 25)) := ((Kept.refl _ _).alloc _).alloc _
  simp only [World.size_alloc] at hby
  have H1 := Lib.hid h1
  have H2 := Lib.hid h2
  have HT := Lib.hid hT
  clear hb h1 h2 hT
  go_enter Tryd.func11, Tryd.ntmps11
  go_upto_region 1 with fail
  generalize (w.alloc (.cells #[.int .i64 sc, .int .i64 od, .int .i64 th, .int .i64 fu, .int .i64 de] 23)).alloc (.cells #[.int .i64 mo, .int .i64 bu, .bool st] 25) = w0 at *
  have c0 : w0.cell? ⟨w.heap.size, 0, none⟩ = some (.int .i64 sc) := hbx.cell 0
  have c1 : w0.cell? ⟨w.heap.size, 1, none⟩ = some (.int .i64 od) := hbx.cell 1
  have c2 : w0.cell? ⟨w.heap.size, 2, none⟩ = some (.int .i64 th) := hbx.cell 2
  have c3 : w0.cell? ⟨w.heap.size, 3, none⟩ = some (.int .i64 fu) := hbx.cell 3
  have c4 : w0.cell? ⟨w.heap.size, 4, none⟩ = some (.int .i64 de) := hbx.cell 4
  have d0 : w0.cell? ⟨w.heap.size + 1, 0, none⟩ = some (.int .i64 mo) := hby.cell 0
  have d1 : w0.cell? ⟨w.heap.size + 1, 1, none⟩ = some (.int .i64 bu) := hby.cell 1
  have d2 : w0.cell? ⟨w.heap.size + 1, 2, none⟩ = some (.bool st) := hby.cell 2
  go_wp2_with fail
  refine (HB.out _).mono ?_
  rintro e w1 ⟨rfl, k1⟩
  have hx1 := hbx.kept k1 id
  have hy1 := hby.kept k1 id
  have hk1 := hk.trans k1 (fun _ _ f => f)
  clear c0 c1 c2 c3 c4 d0 d1 d2 hbx hby hk k1 HB
  simp only [Bool.true_and]
  have d2 : w1.cell? ⟨w.heap.size + 1, 2, none⟩ = some (.bool st) := hy1.cell 2
  obtain ⟨z, hz⟩ : ∃ z : Nat, (if st then 1 else 0) = z := ⟨_, rfl⟩
  have HZ := Lib.hid hz
  clear hz
  obtain ⟨m1, rfl⟩ : ∃ m : Nat, sc = m := ⟨sc.toNat, by have := H1.out; simp only [isCfg, decide_eq_true_eq] at this; omega⟩
  obtain ⟨m2, rfl⟩ : ∃ m : Nat, od = m := ⟨od.toNat, by have := H1.out; simp only [isCfg, decide_eq_true_eq] at this; omega⟩
  obtain ⟨m3, hm3⟩ : ∃ m : Nat, mo - 1 = (m : Int) := ⟨(mo - 1).toNat, by have := H2.out; simp only [isAsk, decide_eq_true_eq] at this; omega⟩
  have q1 : m1 < 4 := by have := H1.out; simp only [isCfg, decide_eq_true_eq] at this; omega
  have q2 : m2 < 2 := by have := H1.out; simp only [isCfg, decide_eq_true_eq] at this; omega
  have q3 : m3 < 3 := by have := H2.out; simp only [isAsk, decide_eq_true_eq] at this; omega
  have q4 : (1 ≤ th ∧ th ≤ 8) ∧ (0 ≤ fu ∧ fu ≤ 16) ∧ (1 ≤ de ∧ de ≤ 4) := by have := H1.out; simp only [isCfg, decide_eq_true_eq] at this; omega
  have q5 : 0 ≤ bu ∧ bu ≤ 1048576 := by have := H2.out; simp only [isAsk, decide_eq_true_eq] at this; omega
  obtain ⟨n1, hn1⟩ : ∃ l, schL.getD m1 [] = l := ⟨_, rfl⟩
  obtain ⟨n2, hn2⟩ : ∃ l, ordL.getD m2 [] = l := ⟨_, rfl⟩
  obtain ⟨n3, hn3⟩ : ∃ l, modL.getD m3 [] = l := ⟨_, rfl⟩
  have a1 := schS_at m1 q1
  have a2 := ordS_at m2 q2
  have a3 := modS_at m3 q3
  rw [hn1] at a1
  rw [hn2] at a2
  rw [hn3] at a3
  have hW : ∀ st, confW m1 m2 th fu de mo bu st = [n1, n2, Lib.itoa th, Lib.itoa fu, Lib.itoa de, n3, Lib.itoa bu, endL.getD (if st then 1 else 0) []] := fun st => by
    rw [← hn1, ← hn2, ← hn3, confW, hm3]
    simp
  have HW := Lib.hid hW
  have HA1 := Lib.hid a1
  have HA2 := Lib.hid a2
  have HA3 := Lib.hid a3
  have HLN := Lib.hid (fun st => confW_len (st := st) H1.out H2.out)
  clear hn1 hn2 hn3 a1 a2 a3 hW
  have i1 : (m1 : Int) < 4 := by omega
  have i2 : (m2 : Int) < 2 := by omega
  have i3 : (m3 : Int) < 3 := by omega
  have HQ4 := Lib.hid q4
  have HQ5 := Lib.hid q5
  clear q4 q5
  have g0 : ∀ p : KW w1, p.w.cell? ⟨w.heap.size, 0, none⟩ = some (.int .i64 m1) := KW.old (hx1.cell 0) hx1.lt
  have g1 : ∀ p : KW w1, p.w.cell? ⟨w.heap.size, 1, none⟩ = some (.int .i64 m2) := KW.old (hx1.cell 1) hx1.lt
  have g2 : ∀ p : KW w1, p.w.cell? ⟨w.heap.size, 2, none⟩ = some (.int .i64 th) := KW.old (hx1.cell 2) hx1.lt
  have g3 : ∀ p : KW w1, p.w.cell? ⟨w.heap.size, 3, none⟩ = some (.int .i64 fu) := KW.old (hx1.cell 3) hx1.lt
  have g4 : ∀ p : KW w1, p.w.cell? ⟨w.heap.size, 4, none⟩ = some (.int .i64 de) := KW.old (hx1.cell 4) hx1.lt
  have g5 : ∀ p : KW w1, p.w.cell? ⟨w.heap.size + 1, 0, none⟩ = some (.int .i64 mo) := KW.old (hy1.cell 0) hy1.lt
  have g6 : ∀ p : KW w1, p.w.cell? ⟨w.heap.size + 1, 1, none⟩ = some (.int .i64 bu) := KW.old (hy1.cell 1) hy1.lt
  have mo1 : (1 : Int) ≤ mo := by omega
  have mo2 : mo ≤ 3 := by omega
  cases st
  all_goals
    go_upto_region 7 with fail
    refine wp_region_dyn ([1,2,6,7,10,11,12,14,15,16,18,19,20,23,24,25,28,29,30,33] ++ 0 :: ([3,4] ++ 5 :: ([8,9] ++ 13 :: 17 :: 21 :: 22 :: ([26,27] ++ 31 :: 32 :: ([34,35] ++ 36 :: 37 :: ([38,39] ++ [])))))) (by kernel_rfl) (by kernel_rfl) ?_
    refine dyn_reads _ _ (by kernel_rfl) ?_
    simp only [sel, List.filterMap_cons, List.filterMap_nil, List.getElem?_cons_succ, List.getElem?_cons_zero]
    repeat (show wpQuiet _ _ _ _ (_ :: _) _; go_big_quiet_step (fail))
    refine wpQuiet_nil ?_
    refine dyn_fn 29 #[] rfl rfl rfl (by intro w; go_simp) ?_
    intro p
    refine (schemes_is p.w).mono ?_
    rintro e w2 ⟨b0, rfl, hb0, hl0, k2⟩
    have hk2 := (hk1.trans p.h (fun _ _ f => f)).trans k2 (fun _ _ f => f)
    refine ⟨_, rfl, k2, ?_⟩
    simp only [Act.put, List.setIfInBounds_toArray, List.set]
    clear g0 g1 g2 g3 g4 g5 g6
    have s0 : ∀ p : KW w2, p.w.cell? ⟨b0, m1, none⟩ = some (.string ⟨n1.toArray⟩) := KW.old ((hb0.cell m1).trans HA1.out) hb0.lt
    refine dyn_reads _ _ (by kernel_rfl) ?_
    simp only [sel, List.filterMap_cons, List.filterMap_nil, List.getElem?_cons_succ, List.getElem?_cons_zero]
    repeat (show wpQuiet _ _ _ _ (_ :: _) _; go_big_quiet_step (fail))
    refine wpQuiet_nil ?_
    refine dyn_fn 30 #[] rfl rfl rfl (by intro w; go_simp) ?_
    intro p
    refine (orders_is p.w).mono ?_
    rintro e w3 ⟨b1, rfl, hb1, hl1, k3⟩
    have hk3 := (hk2.trans p.h (fun _ _ f => f)).trans k3 (fun _ _ f => f)
    refine ⟨_, rfl, k3, ?_⟩
    simp only [Act.put, List.setIfInBounds_toArray, List.set]
    have s1 : ∀ p : KW w3, p.w.cell? ⟨b1, m2, none⟩ = some (.string ⟨n2.toArray⟩) := KW.old ((hb1.cell m2).trans HA2.out) hb1.lt
    clear s0
    refine dyn_reads _ _ (by kernel_rfl) ?_
    simp only [sel, List.filterMap_cons, List.filterMap_nil, List.getElem?_cons_succ, List.getElem?_cons_zero]
    repeat (show wpQuiet _ _ _ _ (_ :: _) _; go_big_quiet_step (fail))
    refine wpQuiet_nil ?_
    refine dyn_fn 26 #[.int .i64 th] rfl rfl rfl (by intro w; go_simp) ?_
    intro p
    refine (dee_is th (by have := HQ4.out; omega) (by have := HQ4.out; omega) p.w (HT.out.kept (hk3.trans p.h (fun _ _ f => f)))).mono ?_
    rintro e w4 ⟨rfl, k4⟩
    have hk4 := (hk3.trans p.h (fun _ _ f => f)).trans k4 (fun _ _ f => f)
    refine ⟨_, rfl, k4, ?_⟩
    simp only [Act.put, List.setIfInBounds_toArray, List.set]
    refine dyn_fn 26 #[.int .i64 fu] rfl rfl rfl (by intro w; go_simp) ?_
    intro p
    refine (dee_is fu (by have := HQ4.out; omega) (by have := HQ4.out; omega) p.w (HT.out.kept (hk4.trans p.h (fun _ _ f => f)))).mono ?_
    rintro e w5 ⟨rfl, k5⟩
    have hk5 := (hk4.trans p.h (fun _ _ f => f)).trans k5 (fun _ _ f => f)
    refine ⟨_, rfl, k5, ?_⟩
    simp only [Act.put, List.setIfInBounds_toArray, List.set]
    refine dyn_fn 26 #[.int .i64 de] rfl rfl rfl (by intro w; go_simp) ?_
    intro p
    refine (dee_is de (by have := HQ4.out; omega) (by have := HQ4.out; omega) p.w (HT.out.kept (hk5.trans p.h (fun _ _ f => f)))).mono ?_
    rintro e w6 ⟨rfl, k6⟩
    have hk6 := (hk5.trans p.h (fun _ _ f => f)).trans k6 (fun _ _ f => f)
    refine ⟨_, rfl, k6, ?_⟩
    simp only [Act.put, List.setIfInBounds_toArray, List.set]
    refine dyn_fn 31 #[] rfl rfl rfl (by intro w; go_simp) ?_
    intro p
    refine (modes_is p.w).mono ?_
    rintro e w7 ⟨b2, rfl, hb2, hl2, k7⟩
    have hk7 := (hk6.trans p.h (fun _ _ f => f)).trans k7 (fun _ _ f => f)
    refine ⟨_, rfl, k7, ?_⟩
    simp only [Act.put, List.setIfInBounds_toArray, List.set]
    have s2 : ∀ p : KW w7, p.w.cell? ⟨b2, m3, none⟩ = some (.string ⟨n3.toArray⟩) := KW.old ((hb2.cell m3).trans HA3.out) hb2.lt
    clear s1
    refine dyn_reads _ _ (by kernel_rfl) ?_
    simp only [sel, List.filterMap_cons, List.filterMap_nil, List.getElem?_cons_succ, List.getElem?_cons_zero]
    repeat (show wpQuiet _ _ _ _ (_ :: _) _; go_big_quiet_step (fail))
    refine wpQuiet_nil ?_
    refine dyn_fn 26 #[.int .i64 bu] rfl rfl rfl (by intro w; go_simp) ?_
    intro p
    refine (dee_is bu (by have := HQ5.out; omega) (by have := HQ5.out; omega) p.w (HT.out.kept (hk7.trans p.h (fun _ _ f => f)))).mono ?_
    rintro e w8 ⟨rfl, k8⟩
    have hk8 := (hk7.trans p.h (fun _ _ f => f)).trans k8 (fun _ _ f => f)
    refine ⟨_, rfl, k8, ?_⟩
    simp only [Act.put, List.setIfInBounds_toArray, List.set]
    refine dyn_fn 32 #[] rfl rfl rfl (by intro w; go_simp) ?_
    intro p
    refine (ends_is p.w).mono ?_
    rintro e w9 ⟨b3, rfl, hb3, hl3, k9⟩
    have hk9 := (hk8.trans p.h (fun _ _ f => f)).trans k9 (fun _ _ f => f)
    refine ⟨_, rfl, k9, ?_⟩
    simp only [Act.put, List.setIfInBounds_toArray, List.set]
    have s3 : ∀ p : KW w9, p.w.cell? ⟨b3, 0, none⟩ = some (.string ⟨#[97, 108, 108]⟩) := KW.old (hb3.cell 0) hb3.lt
    have s4 : ∀ p : KW w9, p.w.cell? ⟨b3, 1, none⟩ = some (.string ⟨#[115, 116, 111, 112]⟩) := KW.old (hb3.cell 1) hb3.lt
    clear s2
    refine dyn_reads _ _ (by kernel_rfl) ?_
    simp only [sel, List.filterMap_cons, List.filterMap_nil, List.getElem?_cons_succ, List.getElem?_cons_zero]
    repeat (show wpQuiet _ _ _ _ (_ :: _) _; go_big_quiet_step (fail))
    refine wpQuiet_nil ?_
    refine dyn_call rfl rfl rfl ?_
    intro p
    unfold callW
    go_simp
    refine ⟨(Kept.refl _ _).alloc _, ?_⟩
    have hk10 := hk9.trans p.h (fun _ _ f => f)
    generalize p.w = w10 at *
    refine dyn_fn 28 #[.slice (some ⟨w10.heap.size, 0, none⟩) 8 8] rfl rfl rfl (by intro w; go_simp) ?_
    intro q
    have hbq := (Box.new w10 _ _).kept q.h id
    have hkq := (hk10.alloc _).trans q.h (fun _ _ f => f)
    refine (join_is q.w _ 8 [n1, n2, Lib.itoa th, Lib.itoa fu, Lib.itoa de, n3, Lib.itoa bu, _] (box_rd hbq rfl 8 rfl (by simp [maxLen])) (by omega) ?_).mono ?_
    · first
        | (have := HLN.out false; rw [HW.out] at this; exact Nat.le_trans this (by omega))
        | (have := HLN.out true; rw [HW.out] at this; exact Nat.le_trans this (by omega))
    rintro e w12 ⟨rfl, k12⟩
    refine ⟨_, rfl, k12, ?_⟩
    have hk12 := hkq.trans k12 (fun _ _ f => f)
    simp only [Act.put, List.setIfInBounds_toArray, List.set]
    refine dyn_reads (rest := []) [38, 39] _ (by kernel_rfl) ?_
    simp only [sel, List.filterMap_cons, List.filterMap_nil, List.getElem?_cons_succ, List.getElem?_cons_zero]
    repeat (show wpQuiet _ _ _ _ (_ :: _) _; go_big_quiet_step (fail))
    refine wpQuiet_nil ?_
    refine dyn_nil fun p => ?_
    have hk13 := hk12.trans p.h (fun _ _ f => f)
    go_wp2_with fail
    go_ret2
    rw [HW.out]
    exact ⟨rfl, hk13⟩
end Go.Proofs.YtknpjhmgkogmaaaDoor.Line
