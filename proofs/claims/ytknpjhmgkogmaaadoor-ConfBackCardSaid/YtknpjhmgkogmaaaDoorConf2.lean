/-
  Package conf: the fields of a config and an ask.
-/
import Derived.Test.YtknpjhmgkogmaaaDoorConf1
import Derived.Test.YtknpjhmgkogmaaaDoorPutB
set_option linter.unusedVariables false
namespace Go.Proofs.YtknpjhmgkogmaaaDoor.Line
open Go.RowKit Go.Sort Go.Proofs.YtknpjhmgkogmaaaDoor.Own Go.Proofs.YtknpjhmgkogmaaaDoor.Conv Go.Proofs.YtknpjhmgkogmaaaDoor.Calm Go.Proofs.YtknpjhmgkogmaaaDoor.Oct

def fW (k : Nat) : Nat := if k < 6 then 1 else 3
def fB (c a k : Nat) : Nat := if k < 5 then c else a
def fO (k : Nat) : Nat := if k < 5 then k else k - 5
def fLo (k : Nat) : Int := if k = 2 ∨ k = 4 ∨ k = 5 then 1 else 0
def fHi (k : Nat) : Int := if k = 0 then 3 else if k = 1 then 1 else if k = 2 then 8 else if k = 3 then 16 else if k = 4 then 4 else if k = 5 then 3 else 1048576
def fCells (c a : Nat) : Array Value := #[.pointer (some ⟨c, 0, none⟩), .int .i64 1, .int .i64 0, .int .i64 3, .pointer (some ⟨c, 1, none⟩), .int .i64 1, .int .i64 0, .int .i64 1, .pointer (some ⟨c, 2, none⟩), .int .i64 1, .int .i64 1, .int .i64 8, .pointer (some ⟨c, 3, none⟩), .int .i64 1, .int .i64 0, .int .i64 16, .pointer (some ⟨c, 4, none⟩), .int .i64 1, .int .i64 1, .int .i64 4, .pointer (some ⟨a, 0, none⟩), .int .i64 1, .int .i64 1, .int .i64 3, .pointer (some ⟨a, 1, none⟩), .int .i64 3, .int .i64 0, .int .i64 1048576]
theorem seven {k : Nat} (h : k < 7) : k = 0 ∨ k = 1 ∨ k = 2 ∨ k = 3 ∨ k = 4 ∨ k = 5 ∨ k = 6 := by omega
theorem fCells_at (c a k : Nat) (h : k < 7) : (fCells c a)[k * 4]? = some (.pointer (some ⟨fB c a k, fO k, none⟩)) ∧ (fCells c a)[k * 4 + 1]? = some (.int .i64 (fW k : Nat)) ∧ (fCells c a)[k * 4 + 2]? = some (.int .i64 (fLo k)) ∧ (fCells c a)[k * 4 + 3]? = some (.int .i64 (fHi k)) := by
  rcases seven h with rfl | rfl | rfl | rfl | rfl | rfl | rfl <;> exact ⟨rfl, rfl, rfl, rfl⟩

set_option maxRecDepth 100000 in
set_option maxHeartbeats 4000000 in
theorem fields_is (c a : Nat) (w : World) :
    Calls Tryd.prog 24 #[.pointer (some ⟨c, 0, none⟩), .pointer (some ⟨a, 0, none⟩)] w fun e w' => ∃ b, e = .returned (.slice (some ⟨b, 0, none⟩) 7 7) ∧ Box w' b (fCells c a) 61 ∧ w.heap.size ≤ b ∧ Kept No w w' := by
  go_enter Tryd.func24, Tryd.ntmps24
  go_upto_region 1 with fail
  refine wp_region_calm_tail 28 (by kernel_rfl) (by kernel_rfl) ?_
  simp only [List.take_succ_cons, List.take_zero, List.drop_succ_cons, List.drop_zero]
  repeat (go_big_quiet_step (fail))
  refine wpQuiet_nil ?_
  rintro _ ⟨p, rfl⟩
  have hk2 := p.h
  generalize p.w = w1 at *
  have hb := Box.new w1 (fCells c a) 61
  have hk3 := hk2.alloc (.cells (fCells c a) 61)
  have HB := Lib.hid hb
  have HK := Lib.hid hk3
  clear hb hk3
  go_wp2_with fail
  go_ret
  exact ⟨w1.heap.size, rfl, HB.out, hk2.size, HK.out⟩
end Go.Proofs.YtknpjhmgkogmaaaDoor.Line
