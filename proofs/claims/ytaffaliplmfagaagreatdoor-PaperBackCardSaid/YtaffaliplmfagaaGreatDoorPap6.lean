/-
  paper.Get's deferred closure: in a frame that panics, and in one that returns.
-/
import Derived.Test.YtaffaliplmfagaaGreatDoorPap5
import Derived.Test.YtaffaliplmfagaaGreatDoorDyns
import Derived.Recover
import Derived.Laws.Pointers
import Derived.Laws.Tables
import Derived.Great.BuildSlice
set_option linter.unusedVariables false
set_option linter.unusedSimpArgs false
namespace Go.Proofs.YtaffaliplmfagaaGreatDoor.Line
open Go.RowKit Go.Sort Go.Proofs.YtaffaliplmfagaaGreatDoor.Own Go.Proofs.YtaffaliplmfagaaGreatDoor.Conv Go.Proofs.YtaffaliplmfagaaGreatDoor.Calm Go.Proofs.YtaffaliplmfagaaGreatDoor.Oct

/-- The three results' blocks. -/
def R3 (rb ab eb q : Nat) : Prop := q = rb ∨ q = ab ∨ q = eb

theorem assert_nil (w : World) : (Instr.typeAssert .nilIface 20 56 true).run Tryz.prog w = .ok (.tuple #[.agg #[.int .i64 0, .int .i64 0], .bool false]) w := by kernel_rfl
theorem assert_fault (x y : Int) (w : World) : (Instr.typeAssert (.iface 56 (.agg #[.int .i64 x, .int .i64 y])) 20 56 true).run Tryz.prog w = .ok (.tuple #[.agg #[.int .i64 x, .int .i64 y], .bool true]) w := by kernel_rfl

set_option maxRecDepth 100000 in
set_option maxHeartbeats 2000000 in
theorem catch_idle (rb ab eb : Nat) (w : World) :
    CallsD Tryz.prog 23 #[.pointer (some ⟨rb, 0, none⟩), .pointer (some ⟨ab, 0, none⟩), .pointer (some ⟨eb, 0, none⟩)] .returning w fun e u' w' => e = .returned (.tuple #[]) ∧ u' = .returning ∧ w' = w.alloc (.cells #[.int .i64 0, .int .i64 0] 56) := by
  refine callsD_of_wpS Tryz.func23 rfl fun c₀ cs hu => ?_
  apply wpS_seq
  apply wpS_region
  simp [wpOpsS, go_sem, recoverD, hu, Tryz.ntmps23, Exit.thenS, assert_nil, Array.replicate]
  refine wpS_of_wp ?_
  go_wp2_with fail
  cases c₀
  simp_all [bodyPostS, results, Tryz.results23]

theorem callW_store_row {P : Program} {o : Oper} {a : Act} {w : World} {K : Value → World → Prop} (ty : TypeId) (x y : Operand) (ho : o.op = .store ty x y)
    (g : Nat) (cells : Array Value) (hx : a.eval x = .pointer (some ⟨g, 0, none⟩)) (hy : a.eval y = .agg cells)
    (t : TypeId) (old : Array Value) (hg : w.heap[g]? = some (.cells old t (0, 0))) (hi : (P.info? ty).map (·.size) = some cells.size)
    (hold : old.size = cells.size) (h1 : cells.all (·.oneCell') = true) (h : K undef (w.setRow g cells)) : callW P o a w K := by
  unfold callW execOp
  simp only [ho, hx, hy, Instr.storeAt, Instr.sureAddr, Sem.run_bind, Sem.run_pure, Result.andThen_ok, run_storeVar_row w g t ty old cells hg hi hold h1]
  exact h
theorem row_only (w : World) (g : Nat) (cs : Array Value) : Kept (Only g) w (w.setRow g cs) :=
  ⟨rfl, rfl, rfl, by rw [setRow_size]; exact Nat.le_refl _, fun k h1 h2 => setRow_other w g k cs h2⟩

set_option maxRecDepth 100000 in
set_option maxHeartbeats 4000000 in
theorem catch_panic (rb ab eb : Nat) (x y : Int) (older : List PanicEntry) (c0 c1 c2 a0 e0 : Value) (w : World) (hr : Box w rb #[c0, c1, c2] 24) (ha : Box w ab #[a0] 3) (he : Box w eb #[e0] 31) (h1 : rb ≠ ab) (h2 : rb ≠ eb) (h3 : ab ≠ eb) :
    CallsD Tryz.prog 23 #[.pointer (some ⟨rb, 0, none⟩), .pointer (some ⟨ab, 0, none⟩), .pointer (some ⟨eb, 0, none⟩)] (.panicking ({ v := .iface 56 (.agg #[.int .i64 x, .int .i64 y]), recovered := false } :: older)) w fun e u' w' =>
      e = .returned (.tuple #[]) ∧ u' = .panicking ({ v := .iface 56 (.agg #[.int .i64 x, .int .i64 y]), recovered := true } :: older) ∧ Kept (R3 rb ab eb) w w' ∧ Box w' rb #[.int .i64 0, .int .i64 0, .slice none 0 0] 24 ∧ Box w' ab #[.int .i64 x] 3 ∧ Box w' eb #[.int .i64 y] 31 := by
  refine callsD_of_wpS Tryz.func23 rfl fun c₀ cs hu => ?_
  apply wpS_seq
  apply wpS_region
  simp [wpOpsS, go_sem, recoverD, hu, Tryz.ntmps23, Exit.thenS, assert_fault, Array.replicate]
  refine wpS_of_wp ?_
  go_upto_region 2 with fail
  have hx0 := Box.new w #[.int .i64 x, .int .i64 y] 56
  have hkA : Kept No w (w.alloc (.cells #[.int .i64 x, .int .i64 y] 56)) := (Kept.refl _ _).alloc _
  have hr1 := hr.kept hkA id
  have ha1 := ha.kept hkA id
  have he1 := he.kept hkA id
  have l1 := hr.lt
  have l2 := ha.lt
  have l3 := he.lt
  generalize hww : w.alloc (.cells #[.int .i64 x, .int .i64 y] 56) = w1 at *
  clear hww
  have hns : ¬ R3 rb ab eb w.heap.size := fun h => by
    rcases h with h | h | h <;> omega
  have X0 : ∀ q : KS (R3 rb ab eb) w1.drew, q.w.cell? ⟨w.heap.size, 0, none⟩ = some (.int .i64 x) := KS.old (w := w1.drew) (hx0.cell 0) hx0.lt hns
  have X1 : ∀ q : KS (R3 rb ab eb) w1.drew, q.w.cell? ⟨w.heap.size, 1, none⟩ = some (.int .i64 y) := KS.old (w := w1.drew) (hx0.cell 1) hx0.lt hns
  refine wp_region_dynS (R3 rb ab eb) ([0, 1, 2, 3, 4] ++ 5 :: 6 :: 7 :: []) (by kernel_rfl) (by kernel_rfl) ?_
  refine dynS_reads _ _ (by kernel_rfl) ?_
  simp only [sel, List.filterMap_cons, List.filterMap_nil, List.getElem?_cons_succ, List.getElem?_cons_zero]
  repeat (show wpQuiet _ _ _ _ (_ :: _) _; go_big_quiet_step (fail))
  refine wpQuiet_nil ?_
  clear X0 X1 hx0 hr ha he
  have hrd : Box w1.drew rb #[c0, c1, c2] 24 := hr1
  refine dynS_act rfl rfl rfl ?_
  refine callW_store_row 24 _ _ rfl rb #[.int .i64 0, .int .i64 0, .slice none 0 0] rfl rfl 24 #[c0, c1, c2] hrd (by kernel_rfl) rfl (by kernel_rfl) ?_
  have k2 : Kept (Only rb) w1.drew (w1.drew.setRow rb #[.int .i64 0, .int .i64 0, .slice none 0 0]) := row_only _ _ _
  refine ⟨k2.mono (fun q _ h => .inl h), ?_⟩
  have hr2 := hrd.row (cs := #[.int .i64 0, .int .i64 0, .slice none 0 0])
  have ha2 : Box (w1.drew.setRow rb #[.int .i64 0, .int .i64 0, .slice none 0 0]) ab #[a0] 3 := Box.kept (w := w1.drew) ha1 k2 (fun h => h1 h.symm)
  have he2 : Box (w1.drew.setRow rb #[.int .i64 0, .int .i64 0, .slice none 0 0]) eb #[e0] 31 := Box.kept (w := w1.drew) he1 k2 (fun h => h2 h.symm)
  have K2 : Hid (Kept (R3 rb ab eb) w (w1.drew.setRow rb #[.int .i64 0, .int .i64 0, .slice none 0 0])) := Lib.hid ((hkA.drew.mono (fun _ _ f => f.elim)).trans k2 (fun q _ h => .inl h))
  clear k2 hrd hr1 ha1 he1 hkA
  simp only [Act.put]
  generalize w1.drew.setRow rb #[.int .i64 0, .int .i64 0, .slice none 0 0] = w2 at *
  have yb : w2.cell? ⟨ab, 0, none⟩ = some a0 := ha2.cell 0
  have yf : w2.frozen? ⟨ab, 0, none⟩ = false := ha2.frozen 0
  refine dynS_act rfl rfl rfl ?_
  unfold callW
  go_simp
  have k3 : Kept (Only ab) w2 (w2.setCell ⟨ab, 0, none⟩ (.int .i64 x)) := (Kept.refl _ w2).setCell (p := ⟨ab, 0, none⟩) (fun _ => by exact rfl) _
  refine ⟨k3.mono (fun q _ h => .inr (.inl h)), ?_⟩
  have hr3 := hr2.kept k3 h1
  have ha3 : Box (w2.setCell ⟨ab, 0, none⟩ (.int .i64 x)) ab #[.int .i64 x] 3 := bset ha2 0 _
  have he3 := he2.kept k3 (fun h => h3 h.symm)
  have K3 : Hid (Kept (R3 rb ab eb) w (w2.setCell ⟨ab, 0, none⟩ (.int .i64 x))) := Lib.hid (K2.out.trans k3 (fun q _ h => .inr (.inl h)))
  clear k3 yb yf hr2 ha2 he2 K2
  generalize w2.setCell ⟨ab, 0, none⟩ (.int .i64 x) = w3 at *
  have yb : w3.cell? ⟨eb, 0, none⟩ = some e0 := he3.cell 0
  have yf : w3.frozen? ⟨eb, 0, none⟩ = false := he3.frozen 0
  refine dynS_act rfl rfl rfl ?_
  unfold callW
  go_simp
  have k4 : Kept (Only eb) w3 (w3.setCell ⟨eb, 0, none⟩ (.int .i64 y)) := (Kept.refl _ w3).setCell (p := ⟨eb, 0, none⟩) (fun _ => by exact rfl) _
  refine ⟨k4.mono (fun q _ h => .inr (.inr h)), ?_⟩
  have hr4 := hr3.kept k4 h2
  have ha4 := ha3.kept k4 h3
  have he4 : Box (w3.setCell ⟨eb, 0, none⟩ (.int .i64 y)) eb #[.int .i64 y] 31 := bset he3 0 _
  have K4 := K3.out.trans k4 (fun q _ h => .inr (.inr h))
  clear yb yf
  refine dynS_nil ?_
  exact ⟨rfl, _, rfl, _, results_none rfl _ _ _, rfl, rfl, K4, hr4, ha4, he4⟩
end Go.Proofs.YtaffaliplmfagaaGreatDoor.Line
