/-
  A statement whose order is open, in which a struct is stored among reads and calls that only read: one walk in the order of the text.
-/
import Derived.Test.YtknpjhmgkogmaaaDoorAlloc
import Derived.Test.YtknpjhmgkogmaaaDoorRow
set_option linter.unusedVariables false
namespace Go.Proofs.YtknpjhmgkogmaaaDoor.Calm
open Go Go.Proofs.YtknpjhmgkogmaaaDoor.Own

section
variable {P : Program} {ops : Array Oper}

/-- The store of a whole struct: it leads from the one world to the other. -/
theorem lexA_store {w0 : World} {Q : Act → Prop} {K k : Nat} {a : Act} {o : Oper} {rest : List Oper} (hk : k = K) (hgd : o.guard = none) (ty : TypeId) (x y : Operand) (ho : o.op = .store ty x y) (hd : o.dst = none)
    (g : Nat) (cells : Array Value) (hx : a.eval x = .pointer (some ⟨g, 0, none⟩)) (hy : a.eval y = .agg cells) (t : TypeId) (old : Array Value) (hg : w0.heap[g]? = some (.cells old t (0, 0)))
    (hi : (P.info? ty).map (·.size) = some cells.size) (hold : old.size = cells.size) (h1 : cells.all (·.oneCell') = true)
    (h : lexR ops (allocR P (Drawn w0 (w0.setRow g cells)) K) Q (k + 1) rest a) : lexR ops (allocR P (Drawn w0 (w0.setRow g cells)) K) Q k (o :: rest) a := by
  refine lexA_skip hk hgd ?_ (by rw [hd]; exact h)
  rintro _ ⟨n, rfl⟩
  refine ⟨(w0.drewN n).setRow g cells, ?_, n, ?_⟩
  · unfold execOp
    have hg2 : (w0.drewN n).heap[g]? = some (.cells old t (0, 0)) := hg
    simp only [ho, hx, hy, two, cond_false, Instr.storeAt, Instr.sureAddr, Sem.run_bind, Sem.run_pure, Result.andThen_ok, run_storeVar_row (w0.drewN n) g t ty old cells hg2 hi hold h1]
  · rfl
/-- A load of a whole struct. -/
theorem lexA_load {w0 w1 : World} {Q : Act → Prop} {K k : Nat} {a : Act} {o : Oper} {rest : List Oper} (hk : (k == K) = false) (hgd : o.guard = none) (ty : TypeId) (x : Operand) (ho : o.op = .load ty x)
    (g : Nat) (hx : a.eval x = .pointer (some ⟨g, 0, none⟩)) (t : TypeId) (cs : Array Value) (d : TypeDesc) (hb : ∀ b, Box (two w0 w1 b) g cs t)
    (hu : P.underlying ty = some d) (hd : (match d with | .struct _ | .array _ _ => true | _ => false) = true) (hi : (P.info? ty).map (·.size) = some cs.size)
    (h : lexR ops (allocR P (Drawn w0 w1) K) Q (k + 1) rest (a.put o.dst (.agg cs))) : lexR ops (allocR P (Drawn w0 w1) K) Q k (o :: rest) a := by
  refine lexA_step hk fun T hT => ?_
  rw [if_pos (by simp [Region.wanted, hgd])]
  refine ⟨.agg cs, ?_, hT _ h⟩
  rintro b _ ⟨n, rfl⟩
  unfold Oper.quietAt execOp
  have hg2 : ((two w0 w1 b).drewN n).heap[g]? = some (.cells cs t (0, 0)) := hb b
  simp only [ho, hx, Instr.loadAt, Instr.sureAddr, Sem.run_bind, Sem.run_pure, Result.andThen_ok, run_loadVar_row ((two w0 w1 b).drewN n) g t ty cs (0, 0) d hg2 hu hd hi]
  exact ⟨rfl, rfl⟩
/-- A call whose callee may draw, no more. -/
theorem lexA_call {w0 w1 : World} {Q : Act → Prop} {K k : Nat} {a : Act} {o : Oper} {rest : List Oper} (hk : (k == K) = false) (hgd : o.guard = none) (f : FuncId) (args : Array Value)
    (hrun : ∀ w, (execOp a.eval o).run P w = .ok (.enter f args) w) (v : Value) (hc : ∀ b n, Calls P f args ((two w0 w1 b).drewN n) fun e w' => e = .returned v ∧ ∃ m, w' = (two w0 w1 b).drewN m)
    (h : lexR ops (allocR P (Drawn w0 w1) K) Q (k + 1) rest (a.put o.dst v)) : lexR ops (allocR P (Drawn w0 w1) K) Q k (o :: rest) a := by
  refine lexA_step hk fun T hT => ?_
  rw [if_pos (by simp [Region.wanted, hgd])]
  refine ⟨v, ?_, hT _ h⟩
  rintro b _ ⟨n, rfl⟩
  unfold Oper.quietAt
  rw [hrun]
  exact ⟨rfl, hc b n⟩
/-- Any other that reads, without a guard: its value, in each world. -/
theorem lexA_plain {w0 w1 : World} {Q : Act → Prop} {K k : Nat} {a : Act} {o : Oper} {rest : List Oper} (hk : (k == K) = false) (hgd : o.guard = none) (v : Value)
    (hrun : ∀ b n, (execOp a.eval o).run P ((two w0 w1 b).drewN n) = .ok (.value v) ((two w0 w1 b).drewN n))
    (h : lexR ops (allocR P (Drawn w0 w1) K) Q (k + 1) rest (a.put o.dst v)) : lexR ops (allocR P (Drawn w0 w1) K) Q k (o :: rest) a := by
  refine lexA_step hk fun T hT => ?_
  rw [if_pos (by simp [Region.wanted, hgd])]
  refine ⟨v, ?_, hT _ h⟩
  rintro b _ ⟨n, rfl⟩
  unfold Oper.quietAt
  rw [hrun]
  exact ⟨rfl, rfl⟩
end
end Go.Proofs.YtknpjhmgkogmaaaDoor.Calm
