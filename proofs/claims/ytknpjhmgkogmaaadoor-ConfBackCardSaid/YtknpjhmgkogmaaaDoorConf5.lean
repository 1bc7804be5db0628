/-
  A config and an ask as words, plainly: what the statement's own reference says.
-/
import Derived.Test.YtknpjhmgkogmaaaDoorConf4
import Derived.Test.YtknpjhmgkogmaaaDoorRefDec
import Derived.Test.YtknpjhmgkogmaaaDoorRefJoin
set_option linter.unusedVariables false
namespace Go.Proofs.YtknpjhmgkogmaaaDoor.Line
open Go.RowKit Go.Sort Go.Proofs.YtknpjhmgkogmaaaDoor.Own Go.Proofs.YtknpjhmgkogmaaaDoor.Conv Go.Proofs.YtknpjhmgkogmaaaDoor.Calm Go.Proofs.YtknpjhmgkogmaaaDoor.Oct

/-- Five blocks made one behind the other. -/
theorem five (w : World) (a b c d e : Array Value) (ta tb tc td te : TypeId) {W : World} (hW : ((((w.alloc (.cells a ta)).alloc (.cells b tb)).alloc (.cells c tc)).alloc (.cells d td)).alloc (.cells e te) = W) :
    Box W w.heap.size a ta ∧ Box W (w.heap.size + 1) b tb ∧ Box W (w.heap.size + 1 + 1) c tc ∧ Box W (w.heap.size + 1 + 1 + 1) d td ∧ Box W (w.heap.size + 1 + 1 + 1 + 1) e te ∧ Kept No w W := by
  subst hW
  have h1 := ((((Box.new w a ta).alloc (.cells b tb)).alloc (.cells c tc)).alloc (.cells d td)).alloc (.cells e te)
  have h2 := (((Box.new (w.alloc (.cells a ta)) b tb).alloc (.cells c tc)).alloc (.cells d td)).alloc (.cells e te)
  have h3 := ((Box.new ((w.alloc (.cells a ta)).alloc (.cells b tb)) c tc).alloc (.cells d td)).alloc (.cells e te)
  have h4 := (Box.new (((w.alloc (.cells a ta)).alloc (.cells b tb)).alloc (.cells c tc)) d td).alloc (.cells e te)
  have h5 := Box.new ((((w.alloc (.cells a ta)).alloc (.cells b tb)).alloc (.cells c tc)).alloc (.cells d td)) e te
  simp only [World.size_alloc] at h2 h3 h4 h5
  exact ⟨h1, h2, h3, h4, h5, (((((Kept.refl _ _).alloc _).alloc _).alloc _).alloc _).alloc _⟩

set_option maxRecDepth 100000 in
set_option maxHeartbeats 4000000 in
theorem refline_is (sc od th fu de mo bu : Int) (st : Bool) (h1 : isCfg sc od th fu de = true) (h2 : isAsk mo bu = true) (w : World) :
    Calls Tryd.prog 15 #[.agg #[.int .i64 sc, .int .i64 od, .int .i64 th, .int .i64 fu, .int .i64 de], .agg #[.int .i64 mo, .int .i64 bu, .bool st]] w fun e w' => e = .returned (.string ⟨(Lib.join (confW sc od th fu de mo bu st) [32]).toArray⟩) ∧ Kept No w w' := by
  have H1 := Lib.hid h1
  have H2 := Lib.hid h2
  clear h1 h2
  go_enter Tryd.func15, Tryd.ntmps15
  go_upto_region 4 with fail
  obtain ⟨w0, hw0⟩ : ∃ W, ((((w.alloc (.cells #[.int .i64 sc, .int .i64 od, .int .i64 th, .int .i64 fu, .int .i64 de] 23)).alloc (.cells #[.int .i64 mo, .int .i64 bu, .bool st] 25)).alloc (.cells schS 9)).alloc (.cells ordS 9)).alloc (.cells modS 9) = W := ⟨_, rfl⟩
  obtain ⟨hx, hy, hs, ho, hm, hk⟩ := five _ _ _ _ _ _ _ _ _ _ _ hw0
  unfold schS ordS modS at hw0
  rw [hw0]
  clear hw0
  obtain ⟨m1, rfl⟩ : ∃ m : Nat, sc = m := ⟨sc.toNat, by have := H1.out; simp only [isCfg, decide_eq_true_eq] at this; omega⟩
  obtain ⟨m2, rfl⟩ : ∃ m : Nat, od = m := ⟨od.toNat, by have := H1.out; simp only [isCfg, decide_eq_true_eq] at this; omega⟩
  obtain ⟨m3, hm3⟩ : ∃ m : Nat, mo - 1 = (m : Int) := ⟨(mo - 1).toNat, by have := H2.out; simp only [isAsk, decide_eq_true_eq] at this; omega⟩
  have q1 : m1 < 4 := by have := H1.out; simp only [isCfg, decide_eq_true_eq] at this; omega
  have q2 : m2 < 2 := by have := H1.out; simp only [isCfg, decide_eq_true_eq] at this; omega
  have q3 : m3 < 3 := by have := H2.out; simp only [isAsk, decide_eq_true_eq] at this; omega
  have q4 : (1 ≤ th ∧ th ≤ 8) ∧ (0 ≤ fu ∧ fu ≤ 16) ∧ (1 ≤ de ∧ de ≤ 4) := by have := H1.out; simp only [isCfg, decide_eq_true_eq] at this; omega
  have q5 : 0 ≤ bu ∧ bu ≤ 1048576 := by have := H2.out; simp only [isAsk, decide_eq_true_eq] at this; omega
  obtain ⟨n1, hn1⟩ : ∃ l, schL.getD m1 [] = l := ⟨_, rfl⟩
  obtain ⟨n2, hn2⟩ : ∃ l, ordL.getD m2 [] = l := ⟨_, rfl⟩
  obtain ⟨n3, hn3⟩ : ∃ l, modL.getD m3 [] = l := ⟨_, rfl⟩
  have a1 := schS_at m1 q1
  have a2 := ordS_at m2 q2
  have a3 := modS_at m3 q3
  rw [hn1] at a1
  rw [hn2] at a2
  rw [hn3] at a3
  have hW : ∀ st, confW m1 m2 th fu de mo bu st = [n1, n2, Lib.itoa th, Lib.itoa fu, Lib.itoa de, n3, Lib.itoa bu, endL.getD (if st then 1 else 0) []] := fun st => by
    rw [← hn1, ← hn2, ← hn3, confW, hm3]
    simp
  have HW := Lib.hid hW
  have HLN := Lib.hid (fun st => confW_len (st := st) H1.out H2.out)
  have s0 : ∀ p : KW w0, p.w.cell? ⟨w.heap.size + 1 + 1, m1, none⟩ = some (.string ⟨n1.toArray⟩) := KW.old ((hs.cell m1).trans a1) hs.lt
  have s1 : ∀ p : KW w0, p.w.cell? ⟨w.heap.size + 1 + 1 + 1, m2, none⟩ = some (.string ⟨n2.toArray⟩) := KW.old ((ho.cell m2).trans a2) ho.lt
  have s2 : ∀ p : KW w0, p.w.cell? ⟨w.heap.size + 1 + 1 + 1 + 1, m3, none⟩ = some (.string ⟨n3.toArray⟩) := KW.old ((hm.cell m3).trans a3) hm.lt
  have g0 : ∀ p : KW w0, p.w.cell? ⟨w.heap.size, 0, none⟩ = some (.int .i64 m1) := KW.old (hx.cell 0) hx.lt
  have g1 : ∀ p : KW w0, p.w.cell? ⟨w.heap.size, 1, none⟩ = some (.int .i64 m2) := KW.old (hx.cell 1) hx.lt
  have g2 : ∀ p : KW w0, p.w.cell? ⟨w.heap.size, 2, none⟩ = some (.int .i64 th) := KW.old (hx.cell 2) hx.lt
  have g3 : ∀ p : KW w0, p.w.cell? ⟨w.heap.size, 3, none⟩ = some (.int .i64 fu) := KW.old (hx.cell 3) hx.lt
  have g4 : ∀ p : KW w0, p.w.cell? ⟨w.heap.size, 4, none⟩ = some (.int .i64 de) := KW.old (hx.cell 4) hx.lt
  have g5 : ∀ p : KW w0, p.w.cell? ⟨w.heap.size + 1, 0, none⟩ = some (.int .i64 mo) := KW.old (hy.cell 0) hy.lt
  have g6 : ∀ p : KW w0, p.w.cell? ⟨w.heap.size + 1, 1, none⟩ = some (.int .i64 bu) := KW.old (hy.cell 1) hy.lt
  have C1 := Lib.hid (fun p : KW w0 => refdec_is th (by omega) (by omega) p.w)
  have C2 := Lib.hid (fun p : KW w0 => refdec_is fu (by omega) (by omega) p.w)
  have C3 := Lib.hid (fun p : KW w0 => refdec_is de (by omega) (by omega) p.w)
  have C4 := Lib.hid (fun p : KW w0 => refdec_is bu (by omega) (by omega) p.w)
  have i1 : (m1 : Int) < 4 := by omega
  have i2 : (m2 : Int) < 2 := by omega
  have i3 : (m3 : Int) < 3 := by omega
  have mo1 : (1 : Int) ≤ mo := by omega
  have mo2 : mo ≤ 3 := by omega
  have HY := Lib.hid hy
  have HK := Lib.hid hk
  clear hn1 hn2 hn3 a1 a2 a3 hW hx hy hs ho hm hk q4 q5
  refine wp_region_calm_tail 28 (by kernel_rfl) (by kernel_rfl) ?_
  simp only [List.take_succ_cons, List.take_zero, List.drop_succ_cons, List.drop_zero]
  repeat (go_big_quiet_step ((go_at_call 35; first | with_reducible exact calls_of _ (C1.out _) | with_reducible exact calls_of _ (C2.out _) | with_reducible exact calls_of _ (C3.out _) | with_reducible exact calls_of _ (C4.out _))))
  refine wpQuiet_nil ?_
  rintro _ ⟨p, rfl⟩
  have hy1 := HY.out.kept p.h id
  have hk1 := HK.out.trans p.h (fun _ _ f => f)
  clear C1 C2 C3 C4 g0 g1 g2 g3 g4 g5 g6 s0 s1 s2 HY HK
  generalize p.w = w1 at *
  go_upto_region 5 with fail
  have hy2 := hy1.alloc (.cells #[.string ⟨n1.toArray⟩, .string ⟨n2.toArray⟩, .string ⟨(Lib.itoa th).toArray⟩, .string ⟨(Lib.itoa fu).toArray⟩, .string ⟨(Lib.itoa de).toArray⟩, .string ⟨n3.toArray⟩, .string ⟨(Lib.itoa bu).toArray⟩, .string ⟨#[97, 108, 108]⟩] 9)
  have hb2 := Box.new w1 #[.string ⟨n1.toArray⟩, .string ⟨n2.toArray⟩, .string ⟨(Lib.itoa th).toArray⟩, .string ⟨(Lib.itoa fu).toArray⟩, .string ⟨(Lib.itoa de).toArray⟩, .string ⟨n3.toArray⟩, .string ⟨(Lib.itoa bu).toArray⟩, .string ⟨#[97, 108, 108]⟩] 9
  have hk2 := hk1.alloc (.cells #[.string ⟨n1.toArray⟩, .string ⟨n2.toArray⟩, .string ⟨(Lib.itoa th).toArray⟩, .string ⟨(Lib.itoa fu).toArray⟩, .string ⟨(Lib.itoa de).toArray⟩, .string ⟨n3.toArray⟩, .string ⟨(Lib.itoa bu).toArray⟩, .string ⟨#[97, 108, 108]⟩] 9)
  have hz1 := hk1.size
  generalize w1.alloc _ = w2 at *
  generalize w1.heap.size = b2 at *
  clear hy1 hk1
  have c2 : w2.cell? ⟨w.heap.size + 1, 2, none⟩ = some (.bool st) := hy2.cell 2
  have f7 := hb2.frozen 7
  have c7 : w2.cell? ⟨b2, 7, none⟩ = some (.string ⟨#[97, 108, 108]⟩) := hb2.cell 7
  cases st with
  | false =>
    go_wp2_with fail
    refine (refjoin_is w2 _ 8 [n1, n2, Lib.itoa th, Lib.itoa fu, Lib.itoa de, n3, Lib.itoa bu, [97, 108, 108]] (box_rd hb2 rfl 8 rfl (by simp [maxLen])) ?_).mono ?_
    · have := HLN.out false
      rw [HW.out] at this
      exact Nat.le_trans this (by omega)
    rintro e w3 ⟨rfl, k3⟩
    have hk3 := hk2.trans k3 (fun _ _ f => f)
    go_wp2_with fail
    go_ret
    rw [HW.out]
    exact ⟨rfl, hk3⟩
  | true =>
    go_wp2_with fail
    have hb3 := box_set hb2 7 (.string ⟨#[115, 116, 111, 112]⟩)
    have hk3 := hk2.setCell (p := ⟨b2, 7, none⟩) (fun h => by simp at h; omega) (.string ⟨#[115, 116, 111, 112]⟩)
    refine (refjoin_is _ _ 8 [n1, n2, Lib.itoa th, Lib.itoa fu, Lib.itoa de, n3, Lib.itoa bu, [115, 116, 111, 112]] (box_rd hb3 rfl 8 rfl (by simp [maxLen])) ?_).mono ?_
    · have := HLN.out true
      rw [HW.out] at this
      exact Nat.le_trans this (by omega)
    rintro e w3 ⟨rfl, k3⟩
    have hk4 := hk3.trans k3 (fun _ _ f => f)
    go_wp2_with fail
    go_ret
    rw [HW.out]
    exact ⟨rfl, hk4⟩
end Go.Proofs.YtknpjhmgkogmaaaDoor.Line
