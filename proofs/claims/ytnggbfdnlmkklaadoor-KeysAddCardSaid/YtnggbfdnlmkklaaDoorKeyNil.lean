/-
  A key, added to none.
-/
import Derived.Test.YtnggbfdnlmkklaaDoorKeyHas
set_option linter.unusedVariables false
namespace Go.Proofs.YtnggbfdnlmkklaaDoor.Line
open Go.RowKit Go.Sort Go.Proofs.YtnggbfdnlmkklaaDoor.Own Go.Proofs.YtnggbfdnlmkklaaDoor.Conv Go.Proofs.YtnggbfdnlmkklaaDoor.Calm

set_option maxHeartbeats 4000000 in
theorem info_key : (Tryd.prog.info? 23).map (fun i => (i.zero, i.size, i.bytes)) = some (some (.agg #[.int .i64 0, .int .i64 0, .int .i64 0]), 3, 24) := by kernel_rfl
theorem nil_eq (w : World) : (binOp .eql 34 (.slice none 0 0) (.slice none 0 0)).run Tryd.prog w = .ok (.bool true) w := by kernel_rfl
set_option maxRecDepth 100000 in
theorem clone_nil (w : World) : Calls Tryd.prog 31 #[.slice none 0 0] w fun e w' => e = .returned (.slice none 0 0) ∧ w' = w := by
  go_enter Tryd.func31, Tryd.ntmps31
  have hq := nil_eq
  go_wp2_with fail
  go_ret
  exact ⟨rfl, rfl⟩

set_option maxHeartbeats 4000000 in
theorem add_nil (x1 x2 x3 : Int) (w : World) :
    Calls Tryd.prog 15 #[.slice none 0 0, .agg #[.int .i64 x1, .int .i64 x2, .int .i64 x3]] w fun e w' => (∃ a c, e = .returned (.slice a 1 c)) ∧ Kept No w w' := by
  have hk0 : Kept No w (w.alloc (.cells #[.int .i64 x1, .int .i64 x2, .int .i64 x3] 23)) := (Kept.refl _ _).alloc _
  have hb0 := Box.new w #[.int .i64 x1, .int .i64 x2, .int .i64 x3] 23
  have HK := Lib.hid hk0
  clear hk0
  go_enter Tryd.func15, Tryd.ntmps15
  go_upto_region 1 with fail
  have HK1 := HK.out
  clear HK
  generalize w.alloc (.cells #[.int .i64 x1, .int .i64 x2, .int .i64 x3] 23) = w0 at *
  have c0 : w0.cell? ⟨w.heap.size, 0, none⟩ = some (.int .i64 x1) := hb0.cell 0
  have c1 : w0.cell? ⟨w.heap.size, 1, none⟩ = some (.int .i64 x2) := hb0.cell 1
  have c2 : w0.cell? ⟨w.heap.size, 2, none⟩ = some (.int .i64 x3) := hb0.cell 2
  go_wp2_with (go_at_call 31; with_reducible refine (clone_nil _).mono ?_; rintro e w' ⟨rfl, rfl⟩)
  refine (has_is _ _ 0 [] (Rd.nil _ 3) x1 x2 x3).mono ?_
  rintro e w1 ⟨rfl, k1⟩
  have hb1 := hb0.kept k1 id
  have hk2 := HK1.trans k1 (fun _ _ f => f)
  clear c0 c1 c2 hb0 HK1 k1
  have c0 : w1.cell? ⟨w.heap.size, 0, none⟩ = some (.int .i64 x1) := hb1.cell 0
  have c1 : w1.cell? ⟨w.heap.size, 1, none⟩ = some (.int .i64 x2) := hb1.cell 1
  have c2 : w1.cell? ⟨w.heap.size, 2, none⟩ = some (.int .i64 x3) := hb1.cell 2
  simp only [List.not_mem_nil, decide_false]
  go_wp2_with fail
  go_loopw [16] (fun i wr => i = .int .i64 0 ∧ wr = w1) (fun _ _ => 0)
  case atStart => exact ⟨rfl, rfl⟩
  case round =>
    obtain ⟨rfl, rfl⟩ := hrel
    obtain ⟨i0, hi, hz0, hz1, hz2⟩ := info_parts info_key
    go_wp2_with (at_builtin; refine wpList_append_seg rfl _ _ 34 rfl wr.heap.size 23 i0 (.agg #[.int .i64 0, .int .i64 0, .int .i64 0]) 3 24 Tryd.underlying34 hi hz0 hz1 hz2 rfl (by decide) _ _ _ rfl (Seg.nil _ _ _ _) ⟨_, 0, none⟩ 1 1 (vals [x1, x2, x3]) rfl rfl ?c1 ?c2 ?c3 ?c4 ?c5 ?_)
    case c1 => exact cells_new _ _ _
    case c2 => exact one_ints _
    case c3 => unfold maxLen; omega
    case c4 => omega
    case c5 => simp
    intro v3 w3 hs3 hg3 _
    have hK3 := (hk2.alloc (.cells #[.int .i64 x1, .int .i64 x2, .int .i64 x3] 23)).grown hg3 (fun g hlt hg => by cases hg)
    obtain ⟨_, a, c, rfl, _⟩ := hs3.rd
    clear c0 c1 c2 hb1 hs3 hg3
    go_wp2_with fail
    go_ret
    exact ⟨⟨_, _, rfl⟩, hK3⟩
end Go.Proofs.YtnggbfdnlmkklaaDoor.Line
