/-
  No cell of these rows narrows 'for every input' (looked for: loops, veiled, ifaces, maps, wideKeys, modest, calm, conditions, laid).
  DERIVED. THE GIVEN ROWS OF THIS SEAT. 3 by the template 'for every input the law returns true; each argument reads behind the call as it read before'; 0 by the template 'total and deterministic' (their statements: YtgjoofjkhcnekaaTotals.lean).
  GIVEN WITH THE SEED: the statements are not yours to turn. If you find one false, say at which input.
  Laid BY PROGRAM, IN A SANDBOX (cutbox-rows.mjs): the forced cells as the released guide's own fill.sh prints them over the translation 5972289437ec3a0e… (all of the seat's roots in one cut). By AI agents, Wed Nov 11 2026. No macro, syntax, notation, axiom, sorry.
-/
import Derived.Test.YtgjoofjkhcnekaaChecked
import GoSem.Claim
import GoSem.ClaimJoined
import GoSem.ClaimMapViews
import Derived.JoinedTies
import Derived.KernelRfl
namespace Go.Proofs.Ytgjoofjkhcnekaa
/- THE CELL 'sum', in the pinned program and in every row, IS THE sha256 OF THE DUMP (.gsa) THAT YtgjoofjkhcnekaaProg.lean LOADS. Nothing in Lean hashes anything: it is a label: what it is worth is what the hold of that sum in a sandbox is worth. -/
noncomputable def Try.pinned : Pinned := { name := "ytgjoofjkhcnekaa", sum := "5972289437ec3a0ee013f1ecaba65f8dfcabdd74151d320870e84908596b6716", checked := Try.checked }
namespace Rows
def none {H : Type} : Left H := { results := [], args := [] }

/-- 'warrenerlaw20.BufferRuns': WHATEVER THE INPUT: true; the input reads as it did. -/
def bufferRunsSpec : ChangeSpec := { name := "bufferRuns", fn := fun _ => fun
  | [d1, d2, d3] => { results := [.lit (.bool true)], args := [d1, d2, d3] }
  | _ => none }
def bufferRunsRow : OpenClaim := { program := "ytgjoofjkhcnekaa", sum := "5972289437ec3a0ee013f1ecaba65f8dfcabdd74151d320870e84908596b6716", func := "warrener/warrenerlaw20.BufferRuns", spec := "bufferRuns", apart := false }
def BufferRunsSaid : Prop := bufferRunsRow.holds Try.pinned (OpenSpec.ofChange bufferRunsSpec)

/-- ITS FALSE NEIGHBOUR: 'it returns false'. Refute it at one input. -/
def bufferRunsWrong : ChangeSpec := { name := "bufferRuns", fn := fun _ => fun
  | [d1, d2, d3] => { results := [.lit (.bool false)], args := [d1, d2, d3] }
  | _ => none }
def BufferRunsWrongFalsely : Prop := bufferRunsRow.holds Try.pinned (OpenSpec.ofChange bufferRunsWrong)

/-- 'warrenerlaw20.BufferClones': WHATEVER THE INPUT: true; the input reads as it did. -/
def bufferClonesSpec : ChangeSpec := { name := "bufferClones", fn := fun _ => fun
  | [d1, d2, d3, d4] => { results := [.lit (.bool true)], args := [d1, d2, d3, d4] }
  | _ => none }
def bufferClonesRow : OpenClaim := { program := "ytgjoofjkhcnekaa", sum := "5972289437ec3a0ee013f1ecaba65f8dfcabdd74151d320870e84908596b6716", func := "warrener/warrenerlaw20.BufferClones", spec := "bufferClones", apart := false }
def BufferClonesSaid : Prop := bufferClonesRow.holds Try.pinned (OpenSpec.ofChange bufferClonesSpec)

/-- ITS FALSE NEIGHBOUR: 'it returns false'. Refute it at one input. -/
def bufferClonesWrong : ChangeSpec := { name := "bufferClones", fn := fun _ => fun
  | [d1, d2, d3, d4] => { results := [.lit (.bool false)], args := [d1, d2, d3, d4] }
  | _ => none }
def BufferClonesWrongFalsely : Prop := bufferClonesRow.holds Try.pinned (OpenSpec.ofChange bufferClonesWrong)

/-- 'warrenerlaw20.BufferNobody': WHATEVER THE INPUT: true; the input reads as it did. -/
def bufferNobodySpec : ChangeSpec := { name := "bufferNobody", fn := fun _ => fun
  | [d] => { results := [.lit (.bool true)], args := [d] }
  | _ => none }
def bufferNobodyRow : OpenClaim := { program := "ytgjoofjkhcnekaa", sum := "5972289437ec3a0ee013f1ecaba65f8dfcabdd74151d320870e84908596b6716", func := "warrener/warrenerlaw20.BufferNobody", spec := "bufferNobody", apart := false }
def BufferNobodySaid : Prop := bufferNobodyRow.holds Try.pinned (OpenSpec.ofChange bufferNobodySpec)

/-- ITS FALSE NEIGHBOUR: 'it returns false'. Refute it at one input. -/
def bufferNobodyWrong : ChangeSpec := { name := "bufferNobody", fn := fun _ => fun
  | [d] => { results := [.lit (.bool false)], args := [d] }
  | _ => none }
def BufferNobodyWrongFalsely : Prop := bufferNobodyRow.holds Try.pinned (OpenSpec.ofChange bufferNobodyWrong)

/- THE SECOND FORM. 'bulk': how many values and letters a reading holds, each counted each time it is reached (what is shared counts as often as it is met; a slice's spare places count too). A statement '..UptoSaid' is the law's where the arguments, and the package variables that the reading takes, are together of bulk at most 1048576: NARROWER than '..Said'. Prove '..Said' where nothing that the law and all that it calls make is longer than what came in: it says more and counts as full. Else prove '..UptoSaid'. A law counts once. -/
mutual
def uptoBulk {H : Type} : DataW H → Nat
  | .lit (.string bytes) => bytes.length + 1
  | .lit _ => 1
  | .nil => 1
  | .ptr d => uptoBulk d + 1
  | .slice elems spare => uptoBulkAll elems + uptoBulkAll spare + 1
  | .agg parts => uptoBulkAll parts + 1
  | .iface _ d => uptoBulk d + 1
  | .map entries => uptoBulkEntries entries + 1
  | .held _ => 1
def uptoBulkAll {H : Type} : List (DataW H) → Nat
  | [] => 0
  | d :: r => uptoBulk d + uptoBulkAll r
def uptoBulkEntries {H : Type} : List (Lit × DataW H) → Nat
  | [] => 0
  | x :: r => uptoBulkEntry x + uptoBulkEntries r
def uptoBulkEntry {H : Type} : Lit × DataW H → Nat
  | (.string bytes, d) => bytes.length + uptoBulk d + 1
  | (_, d) => uptoBulk d + 1
 end
def uptoSmall : (H : Type) → List (DataW H) → Bool := fun _ ds => decide (uptoBulkAll ds ≤ 1048576)
def OpenSpec.upto (s : _root_.Go.ChangeSpec) : _root_.Go.OpenSpec := { _root_.Go.OpenSpec.ofChange s with cond := some uptoSmall }

/-- 'warrenerlaw20.BufferRuns', WHERE WHAT IT READS IS OF BULK AT MOST 1048576: true; the input reads as it did. -/
def bufferRunsUptoRow : OpenClaim := { program := "ytgjoofjkhcnekaa", sum := "5972289437ec3a0ee013f1ecaba65f8dfcabdd74151d320870e84908596b6716", func := "warrener/warrenerlaw20.BufferRuns", spec := "bufferRuns", apart := false, narrowed := true }
def BufferRunsUptoSaid : Prop := bufferRunsUptoRow.holds Try.pinned (OpenSpec.upto bufferRunsSpec)

/-- 'warrenerlaw20.BufferClones', WHERE WHAT IT READS IS OF BULK AT MOST 1048576: true; the input reads as it did. -/
def bufferClonesUptoRow : OpenClaim := { program := "ytgjoofjkhcnekaa", sum := "5972289437ec3a0ee013f1ecaba65f8dfcabdd74151d320870e84908596b6716", func := "warrener/warrenerlaw20.BufferClones", spec := "bufferClones", apart := false, narrowed := true }
def BufferClonesUptoSaid : Prop := bufferClonesUptoRow.holds Try.pinned (OpenSpec.upto bufferClonesSpec)

/-- 'warrenerlaw20.BufferNobody', WHERE WHAT IT READS IS OF BULK AT MOST 1048576: true; the input reads as it did. -/
def bufferNobodyUptoRow : OpenClaim := { program := "ytgjoofjkhcnekaa", sum := "5972289437ec3a0ee013f1ecaba65f8dfcabdd74151d320870e84908596b6716", func := "warrener/warrenerlaw20.BufferNobody", spec := "bufferNobody", apart := false, narrowed := true }
def BufferNobodyUptoSaid : Prop := bufferNobodyUptoRow.holds Try.pinned (OpenSpec.upto bufferNobodySpec)

end Rows
end Go.Proofs.Ytgjoofjkhcnekaa
