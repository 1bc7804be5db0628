/-
  DERIVED. GIVEN WITH THE SEED: THE CARDS: each row of YtaffaliplmfagaaDoorRows.lean that lists a variable, with what it lists TIED to the program's text (the seventh form; the later family's looks); each row that meets fmt, with fmt's text TOLD by the authors' own Lean function (tested against real Go, not proved from fmt's source: count such statements apart). THE CARD IS WHAT COUNTS. Prove the row's statement (the work); the ties are given (YtaffaliplmfagaaDoorTie.lean); close each card by the builder's one call (the guide's Derived/Test/ToyasCard.lean, 'card_holds'). Laid BY PROGRAM, IN A SANDBOX (cutbox-door.mjs). By AI agents, Wed Nov 11 2026. No macro, syntax, notation, axiom, sorry.
-/
import Derived.Test.YtaffaliplmfagaaDoorRows
import GoSem.ClaimSeven
namespace Go.Proofs.YtaffaliplmfagaaDoor
namespace Rows

/-- THE TIED CARD OF 'warrenerlaw40.PaperChecks'. -/
def paperChecksCard : Claim7 := { stood := { row := paperChecksRow, standIns := [], harness := (true, "7a0cf86342a57015ba25ab1d40dc9a11cf5020625553229e4923d5d326856e31"), looks := true }, kinds := [], alts := [], laidByText := true, laidKinds := [.data, .data, .data], laidTests := true, laidLooks := .later }
def PaperChecksCardSaid : Prop := Claim7.holds Tryd.pinned (.plain (OpenSpec.ofChange paperChecksSpec)) paperChecksCard

/-- THE TIED CARD OF 'warrenerlaw40.PaperGets'. -/
def paperGetsCard : Claim7 := { stood := { row := paperGetsRow, standIns := [], harness := (true, "7a0cf86342a57015ba25ab1d40dc9a11cf5020625553229e4923d5d326856e31"), looks := true }, kinds := [], alts := [], laidByText := true, laidKinds := [.data, .data, .data], laidTests := true, laidLooks := .later }
def PaperGetsCardSaid : Prop := Claim7.holds Tryd.pinned (.plain (OpenSpec.ofChange paperGetsSpec)) paperGetsCard

/-- THE SECOND FORM's CARD OF 'warrenerlaw40.PaperChecks'. -/
def paperChecksUptoCard : Claim7 := { stood := { row := paperChecksUptoRow, standIns := [], harness := (true, "7a0cf86342a57015ba25ab1d40dc9a11cf5020625553229e4923d5d326856e31"), looks := true }, kinds := [], alts := [], laidByText := true, laidKinds := [.data, .data, .data], laidTests := true, laidLooks := .later }
def PaperChecksUptoCardSaid : Prop := Claim7.holds Tryd.pinned (.plain (OpenSpec.upto paperChecksSpec)) paperChecksUptoCard

/-- THE SECOND FORM's CARD OF 'warrenerlaw40.PaperGets'. -/
def paperGetsUptoCard : Claim7 := { stood := { row := paperGetsUptoRow, standIns := [], harness := (true, "7a0cf86342a57015ba25ab1d40dc9a11cf5020625553229e4923d5d326856e31"), looks := true }, kinds := [], alts := [], laidByText := true, laidKinds := [.data, .data, .data], laidTests := true, laidLooks := .later }
def PaperGetsUptoCardSaid : Prop := Claim7.holds Tryd.pinned (.plain (OpenSpec.upto paperGetsSpec)) paperGetsUptoCard
end Rows
end Go.Proofs.YtaffaliplmfagaaDoor
