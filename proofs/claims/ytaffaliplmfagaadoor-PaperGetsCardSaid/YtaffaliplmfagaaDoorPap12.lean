/-
  paper.Get of no octets.
-/
import Derived.Test.YtaffaliplmfagaaDoorPap7
set_option linter.unusedVariables false
set_option linter.unusedSimpArgs false
namespace Go.Proofs.YtaffaliplmfagaaDoor.Line
open Go.RowKit Go.Sort Go.Proofs.YtaffaliplmfagaaDoor.Own Go.Proofs.YtaffaliplmfagaaDoor.Conv Go.Proofs.YtaffaliplmfagaaDoor.Calm Go.Proofs.YtaffaliplmfagaaDoor.Oct

set_option maxRecDepth 100000 in
set_option maxHeartbeats 8000000 in
theorem get_nil (a : Option Addr) (cap : Nat) (w : World) : Calls Tryd.prog 13 #[.slice a 0 cap] w fun e w' => e = .returned (.tuple #[.agg #[.int .i64 0, .int .i64 0, .slice none 0 0], .int .i64 0, .int .i64 1]) ∧ Kept No w w' := by
  have hmf : ∀ (fn : Fn) (first cap : Array Value) (w : World), (Instr.makeFunc fn first cap).run Tryd.prog w = .ok (.func fn first cap) w := fun _ _ _ _ => rfl
  have hk0 := run_alloc3 w
  have br := ((Box.new w #[.int .i64 0, .int .i64 0, .slice none 0 0] 24).alloc (.cells #[.int .i64 0] 3)).alloc (.cells #[.int .i64 0] 28)
  have ba := (Box.new (w.alloc (.cells #[.int .i64 0, .int .i64 0, .slice none 0 0] 24)) #[.int .i64 0] 3).alloc (.cells #[.int .i64 0] 28)
  have be := Box.new ((w.alloc (.cells #[.int .i64 0, .int .i64 0, .slice none 0 0] 24)).alloc (.cells #[.int .i64 0] 3)) #[.int .i64 0] 28
  simp only [World.size_alloc] at ba be
  go_enter_defers Tryd.func13, Tryd.ntmps13
  go_upto_region 2 with fail
  generalize ((w.alloc (.cells #[.int .i64 0, .int .i64 0, .slice none 0 0] 24)).alloc (.cells #[.int .i64 0] 3)).alloc (.cells #[.int .i64 0] 28) = w0 at *
  have HBR := Lib.hid br
  have HBA := Lib.hid ba
  have HBE := Lib.hid be
  have HK0 := Lib.hid hk0
  clear br ba be hk0
  obtain ⟨t1, t2, t3, t4, tk, tr, ta, te⟩ := three (.int .i64 0) (.int .i64 0) (.slice none 0 0) (.int .i64 0) (.int .i64 1) HBR.out HBA.out HBE.out
  have TK := Lib.hid (HK0.out.trans tk (fun q hq h => by rcases h with h | h | h <;> omega))
  have TR := Lib.hid tr
  have TA := Lib.hid ta
  have TE := Lib.hid te
  clear tk tr ta te
  go_wp2_with (refine wpList_store_rowTo rfl 24 _ _ rfl rfl w.heap.size #[.int .i64 0, .int .i64 0, .slice none 0 0] (by kernel_rfl) (by kernel_rfl) 24 _ HBR.out (by kernel_rfl) (by kernel_rfl) (by kernel_rfl) ?_)
  refine leave_ret rfl rfl rfl TR.out TA.out TE.out (fun w' hk => ⟨rfl, TK.out.trans hk (fun _ _ f => f)⟩)
end Go.Proofs.YtaffaliplmfagaaDoor.Line
