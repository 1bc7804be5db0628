/-
  Package conf: a config and an ask, out of octets.
-/
import Derived.Test.YtknpjhmgkogmaaaDoorConf7
import Derived.Test.YtknpjhmgkogmaaaDoorConf6
set_option linter.unusedVariables false
namespace Go.Proofs.YtknpjhmgkogmaaaDoor.Line
open Go.RowKit Go.Sort Go.Proofs.YtknpjhmgkogmaaaDoor.Own Go.Proofs.YtknpjhmgkogmaaaDoor.Conv Go.Proofs.YtknpjhmgkogmaaaDoor.Calm Go.Proofs.YtknpjhmgkogmaaaDoor.Oct

theorem results_22 {P : Program} {fn : Func} {p q u v : Tmp} {ty1 ty2 : TypeId} (h : fn.results = #[.cell p ty1, .cell q ty2, .tmp u, .tmp v]) (tmps : Array Value) (w : World) (g1 g2 : Nat) (t1 t2 : TypeId) (cs1 cs2 : Array Value) (d1 d2 : TypeDesc)
    (hp : tmps.getD p undef = .pointer (some ⟨g1, 0, none⟩)) (hq : tmps.getD q undef = .pointer (some ⟨g2, 0, none⟩)) (hg1 : Box w g1 cs1 t1) (hg2 : Box w g2 cs2 t2)
    (hu1 : P.underlying ty1 = some d1) (hd1 : (match d1 with | .struct _ | .array _ _ => true | _ => false) = true) (hi1 : (P.info? ty1).map (·.size) = some cs1.size)
    (hu2 : P.underlying ty2 = some d2) (hd2 : (match d2 with | .struct _ | .array _ _ => true | _ => false) = true) (hi2 : (P.info? ty2).map (·.size) = some cs2.size) :
    (results fn tmps).run P w = .ok (.tuple #[.agg cs1, .agg cs2, tmps.getD u undef, tmps.getD v undef]) w := by
  have hp' : tmps[p]?.getD undef = .pointer (some ⟨g1, 0, none⟩) := by simpa using hp
  have hq' : tmps[q]?.getD undef = .pointer (some ⟨g2, 0, none⟩) := by simpa using hq
  simp [results, h, hp', hq', asAddr, Sem.run_bind, Result.andThen, run_loadVar_row w g1 t1 ty1 cs1 (0, 0) d1 hg1 hu1 hd1 hi1, run_loadVar_row w g2 t2 ty2 cs2 (0, 0) d2 hg2 hu2 hd2 hi2]

/-- Where field k begins. -/
def gOff (k : Nat) : Nat := if k < 7 then k else 9
/-- The number of field k. -/
def gV (b : List Int) (k : Nat) : Int := (beN ((b.drop (gOff k)).take (fW k)) : Nat)
/-- Where octets are wrong, from field k on, d fields being left. -/
def getF (b : List Int) (k : Nat) : Nat → Nat × Int
  | 0 => if b.length < 10 ∨ 1 < b.getD 9 0 then (9, 1) else if 10 < b.length then (10, 1) else (10, 0)
  | d + 1 => if b.length - gOff k < fW k then (b.length, 1) else if gV b k < fLo k ∨ fHi k < gV b k then (gOff k, 3) else getF b (k + 1) d
theorem getF_step (b : List Int) (k d : Nat) (hd : 0 < d) : getF b k d = if b.length - gOff k < fW k then (b.length, 1) else if gV b k < fLo k ∨ fHi k < gV b k then (gOff k, 3) else getF b (k + 1) (d - 1) := by
  obtain ⟨d, rfl⟩ : ∃ m, d = m + 1 := ⟨d - 1, by omega⟩
  rfl
def getW (b : List Int) : Nat × Int := getF b 0 7
theorem gOff_succ (k : Nat) (h : k < 7) : gOff (k + 1) = gOff k + fW k := by
  rcases seven h with rfl | rfl | rfl | rfl | rfl | rfl | rfl <;> decide
theorem gOff_le (k : Nat) : gOff k ≤ 9 := by unfold gOff; split <;> omega
theorem gV_bd (b : List Int) (hb : Octs b) (k : Nat) : 0 ≤ gV b k ∧ gV b k < 16777216 := by
  have ho : Octs (b.drop (gOff k)) := fun c hc => hb c (List.mem_of_mem_drop hc)
  have := beN_lt (fW k) _ ho
  have hf := fW_le k
  have h3 : 256 ^ fW k ≤ 256 ^ 3 := Nat.pow_le_pow_right (by omega) hf.2
  unfold gV
  omega

def GetPost (w : World) (b : List Int) (e : Ending) (w' : World) : Prop :=
  Kept No w w' ∧ ((getW b).2 ≠ 0 ∧ e = .returned (.tuple #[.agg cfg0, .agg ask0, .int .i64 (getW b).1, .int .i64 (getW b).2]) ∨
    (getW b = (10, 0) ∧ b.length = 10 ∧ (isCfg (gV b 0) (gV b 1) (gV b 2) (gV b 3) (gV b 4) && isAsk (gV b 5) (gV b 6)) = true ∧ (b.getD 9 0 = 0 ∨ b.getD 9 0 = 1)) ∧
      e = .returned (.tuple #[.agg #[.int .i64 (gV b 0), .int .i64 (gV b 1), .int .i64 (gV b 2), .int .i64 (gV b 3), .int .i64 (gV b 4)], .agg #[.int .i64 (gV b 5), .int .i64 (gV b 6), .bool (b.getD 9 0 == 1)], .int .i64 10, .int .i64 0]))

/-- The cells of the config when k fields are read. -/
def cfgK (b : List Int) (k : Nat) : Array Value := #[.int .i64 (if 0 < k then gV b 0 else 0), .int .i64 (if 1 < k then gV b 1 else 0), .int .i64 (if 2 < k then gV b 2 else 0), .int .i64 (if 3 < k then gV b 3 else 0), .int .i64 (if 4 < k then gV b 4 else 0)]
def askK (b : List Int) (k : Nat) : Array Value := #[.int .i64 (if 5 < k then gV b 5 else 0), .int .i64 (if 6 < k then gV b 6 else 0), .bool false]
/-- Field k stored. -/
theorem field_set {w : World} {c a : Nat} {b : List Int} {k : Nat} (hca : a ≠ c) (hc : Box w c (cfgK b k) 23) (ha : Box w a (askK b k) 25) (h : k < 7) :
    Box (w.setCell ⟨fB c a k, fO k, none⟩ (.int .i64 (gV b k))) c (cfgK b (k + 1)) 23 ∧ Box (w.setCell ⟨fB c a k, fO k, none⟩ (.int .i64 (gV b k))) a (askK b (k + 1)) 25 := by
  rcases seven h with rfl | rfl | rfl | rfl | rfl | rfl | rfl
  · exact ⟨box_set hc 0 _, Box.set_other ha (Ne.symm hca) 0 _⟩
  · exact ⟨box_set hc 1 _, Box.set_other ha (Ne.symm hca) 1 _⟩
  · exact ⟨box_set hc 2 _, Box.set_other ha (Ne.symm hca) 2 _⟩
  · exact ⟨box_set hc 3 _, Box.set_other ha (Ne.symm hca) 3 _⟩
  · exact ⟨box_set hc 4 _, Box.set_other ha (Ne.symm hca) 4 _⟩
  · exact ⟨Box.set_other hc hca 0 _, box_set ha 0 _⟩
  · exact ⟨Box.set_other hc hca 1 _, box_set ha 1 _⟩
theorem field_cell {w : World} {c a : Nat} {b : List Int} {k : Nat} (hc : Box w c (cfgK b k) 23) (ha : Box w a (askK b k) 25) (h : k < 7) :
    (∃ v, w.cell? ⟨fB c a k, fO k, none⟩ = some v) ∧ w.frozen? ⟨fB c a k, fO k, none⟩ = false := by
  rcases seven h with rfl | rfl | rfl | rfl | rfl | rfl | rfl
  · exact ⟨⟨_, hc.cell 0⟩, hc.frozen 0⟩
  · exact ⟨⟨_, hc.cell 1⟩, hc.frozen 1⟩
  · exact ⟨⟨_, hc.cell 2⟩, hc.frozen 2⟩
  · exact ⟨⟨_, hc.cell 3⟩, hc.frozen 3⟩
  · exact ⟨⟨_, hc.cell 4⟩, hc.frozen 4⟩
  · exact ⟨⟨_, ha.cell 0⟩, ha.frozen 0⟩
  · exact ⟨⟨_, ha.cell 1⟩, ha.frozen 1⟩
end Go.Proofs.YtknpjhmgkogmaaaDoor.Line
