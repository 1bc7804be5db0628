/-
  DERIVED. GIVEN WITH THE SEED: THE CARDS: each row of YtknpjhmgkogmaaaDoorRows.lean that lists a variable, with what it lists TIED to the program's text (the seventh form; the later family's looks); each row that meets fmt, with fmt's text TOLD by the authors' own Lean function (tested against real Go, not proved from fmt's source: count such statements apart). THE CARD IS WHAT COUNTS. Prove the row's statement (the work); the ties are given (YtknpjhmgkogmaaaDoorTie.lean); close each card by the builder's one call (the guide's Derived/Test/ToyasCard.lean, 'card_holds'). Laid BY PROGRAM, IN A SANDBOX (cutbox-door.mjs). By AI agents, Wed Nov 11 2026. No macro, syntax, notation, axiom, sorry.
-/
import Derived.Test.YtknpjhmgkogmaaaDoorRows
import GoSem.ClaimSeven
namespace Go.Proofs.YtknpjhmgkogmaaaDoor
namespace Rows

/-- THE TIED CARD OF 'warrenerlaw14.ConfChecks'. -/
def confChecksCard : Claim7 := { stood := { row := confChecksRow, standIns := [], harness := (true, "e807d7463f5e3e531ba77f9b6bcc9f6cdb0022bec0de569fd395ad82ac39486e"), looks := true }, kinds := [], alts := [], laidByText := true, laidKinds := [.data, .data, .data, .data, .sentinel, .sentinel, .pinned], laidTests := true, laidLooks := .later }
def ConfChecksCardSaid : Prop := Claim7.holds Tryd.pinned (.plain (OpenSpec.ofChange confChecksSpec)) confChecksCard

/-- THE TIED CARD OF 'warrenerlaw14.ConfParses'. -/
def confParsesCard : Claim7 := { stood := { row := confParsesRow, standIns := [], harness := (true, "e807d7463f5e3e531ba77f9b6bcc9f6cdb0022bec0de569fd395ad82ac39486e"), looks := true }, kinds := [], alts := [], laidByText := true, laidKinds := [.data, .data, .data, .data, .sentinel, .sentinel, .pinned], laidTests := true, laidLooks := .later }
def ConfParsesCardSaid : Prop := Claim7.holds Tryd.pinned (.plain (OpenSpec.ofChange confParsesSpec)) confParsesCard

/-- THE TIED CARD OF 'warrenerlaw14.ConfGets'. -/
def confGetsCard : Claim7 := { stood := { row := confGetsRow, standIns := [], harness := (true, "e807d7463f5e3e531ba77f9b6bcc9f6cdb0022bec0de569fd395ad82ac39486e"), looks := true }, kinds := [], alts := [], laidByText := true, laidKinds := [.data, .data, .data, .data, .sentinel, .sentinel, .pinned], laidTests := true, laidLooks := .later }
def ConfGetsCardSaid : Prop := Claim7.holds Tryd.pinned (.plain (OpenSpec.ofChange confGetsSpec)) confGetsCard

/-- THE TIED CARD OF 'warrenerlaw14.ConfBack'. -/
def confBackCard : Claim7 := { stood := { row := confBackRow, standIns := [], harness := (true, "e807d7463f5e3e531ba77f9b6bcc9f6cdb0022bec0de569fd395ad82ac39486e"), looks := true }, kinds := [], alts := [], laidByText := true, laidKinds := [.data, .data, .data, .data, .sentinel, .sentinel, .pinned], laidTests := true, laidLooks := .later }
def ConfBackCardSaid : Prop := Claim7.holds Tryd.pinned (.plain (OpenSpec.ofChange confBackSpec)) confBackCard

/-- THE SECOND FORM's CARD OF 'warrenerlaw14.ConfChecks'. -/
def confChecksUptoCard : Claim7 := { stood := { row := confChecksUptoRow, standIns := [], harness := (true, "e807d7463f5e3e531ba77f9b6bcc9f6cdb0022bec0de569fd395ad82ac39486e"), looks := true }, kinds := [], alts := [], laidByText := true, laidKinds := [.data, .data, .data, .data, .sentinel, .sentinel, .pinned], laidTests := true, laidLooks := .later }
def ConfChecksUptoCardSaid : Prop := Claim7.holds Tryd.pinned (.plain (OpenSpec.upto confChecksSpec)) confChecksUptoCard

/-- THE SECOND FORM's CARD OF 'warrenerlaw14.ConfParses'. -/
def confParsesUptoCard : Claim7 := { stood := { row := confParsesUptoRow, standIns := [], harness := (true, "e807d7463f5e3e531ba77f9b6bcc9f6cdb0022bec0de569fd395ad82ac39486e"), looks := true }, kinds := [], alts := [], laidByText := true, laidKinds := [.data, .data, .data, .data, .sentinel, .sentinel, .pinned], laidTests := true, laidLooks := .later }
def ConfParsesUptoCardSaid : Prop := Claim7.holds Tryd.pinned (.plain (OpenSpec.upto confParsesSpec)) confParsesUptoCard

/-- THE SECOND FORM's CARD OF 'warrenerlaw14.ConfGets'. -/
def confGetsUptoCard : Claim7 := { stood := { row := confGetsUptoRow, standIns := [], harness := (true, "e807d7463f5e3e531ba77f9b6bcc9f6cdb0022bec0de569fd395ad82ac39486e"), looks := true }, kinds := [], alts := [], laidByText := true, laidKinds := [.data, .data, .data, .data, .sentinel, .sentinel, .pinned], laidTests := true, laidLooks := .later }
def ConfGetsUptoCardSaid : Prop := Claim7.holds Tryd.pinned (.plain (OpenSpec.upto confGetsSpec)) confGetsUptoCard

/-- THE SECOND FORM's CARD OF 'warrenerlaw14.ConfBack'. -/
def confBackUptoCard : Claim7 := { stood := { row := confBackUptoRow, standIns := [], harness := (true, "e807d7463f5e3e531ba77f9b6bcc9f6cdb0022bec0de569fd395ad82ac39486e"), looks := true }, kinds := [], alts := [], laidByText := true, laidKinds := [.data, .data, .data, .data, .sentinel, .sentinel, .pinned], laidTests := true, laidLooks := .later }
def ConfBackUptoCardSaid : Prop := Claim7.holds Tryd.pinned (.plain (OpenSpec.upto confBackSpec)) confBackUptoCard
end Rows
end Go.Proofs.YtknpjhmgkogmaaaDoor
