/-
  DERIVED. GIVEN WITH THE SEED: THE CARDS: each row of YtjpddfnkamahfaaDoorRows.lean that lists a variable, with what it lists TIED to the program's text (the seventh form; the later family's looks); each row that meets fmt, with fmt's text TOLD by the authors' own Lean function (tested against real Go, not proved from fmt's source: count such statements apart). THE CARD IS WHAT COUNTS. Prove the row's statement (the work); the ties are given (YtjpddfnkamahfaaDoorTie.lean); close each card by the builder's one call (the guide's Derived/Test/ToyasCard.lean, 'card_holds'). Laid BY PROGRAM, IN A SANDBOX (cutbox-door.mjs). By AI agents, Wed Nov 11 2026. No macro, syntax, notation, axiom, sorry.
-/
import Derived.Test.YtjpddfnkamahfaaDoorRows
import GoSem.ClaimSeven
namespace Go.Proofs.YtjpddfnkamahfaaDoor
namespace Rows

/-- THE TIED CARD OF 'warrenerlaw13.AsmInstrs'. -/
def asmInstrsCard : Claim7 := { stood := { row := asmInstrsRow, standIns := [], harness := (true, "9cda480ef91bd2c0de699e74648d4e360d8aa1c3c754d7a72576c11af41e3c4b"), looks := true }, kinds := [], alts := [], laidByText := true, laidKinds := [.data, .data, .data, .data, .sentinel, .sentinel, .pinned], laidTests := true, laidLooks := .later }
def AsmInstrsCardSaid : Prop := Claim7.holds Tryd.pinned (.plain (OpenSpec.ofChange asmInstrsSpec)) asmInstrsCard

/-- THE TIED CARD OF 'warrenerlaw13.AsmBack'. -/
def asmBackCard : Claim7 := { stood := { row := asmBackRow, standIns := [], harness := (true, "9cda480ef91bd2c0de699e74648d4e360d8aa1c3c754d7a72576c11af41e3c4b"), looks := true }, kinds := [], alts := [], laidByText := true, laidKinds := [.data, .data, .data, .data, .sentinel, .sentinel, .pinned], laidTests := true, laidLooks := .later }
def AsmBackCardSaid : Prop := Claim7.holds Tryd.pinned (.plain (OpenSpec.ofChange asmBackSpec)) asmBackCard

/-- THE TIED CARD OF 'warrenerlaw13.AsmNotes'. -/
def asmNotesCard : Claim7 := { stood := { row := asmNotesRow, standIns := [], harness := (true, "9cda480ef91bd2c0de699e74648d4e360d8aa1c3c754d7a72576c11af41e3c4b"), looks := true }, kinds := [], alts := [], laidByText := true, laidKinds := [.data, .data, .data, .data, .sentinel, .sentinel, .pinned], laidTests := true, laidLooks := .later }
def AsmNotesCardSaid : Prop := Claim7.holds Tryd.pinned (.plain (OpenSpec.ofChange asmNotesSpec)) asmNotesCard

/-- THE SECOND FORM's CARD OF 'warrenerlaw13.AsmInstrs'. -/
def asmInstrsUptoCard : Claim7 := { stood := { row := asmInstrsUptoRow, standIns := [], harness := (true, "9cda480ef91bd2c0de699e74648d4e360d8aa1c3c754d7a72576c11af41e3c4b"), looks := true }, kinds := [], alts := [], laidByText := true, laidKinds := [.data, .data, .data, .data, .sentinel, .sentinel, .pinned], laidTests := true, laidLooks := .later }
def AsmInstrsUptoCardSaid : Prop := Claim7.holds Tryd.pinned (.plain (OpenSpec.upto asmInstrsSpec)) asmInstrsUptoCard

/-- THE SECOND FORM's CARD OF 'warrenerlaw13.AsmBack'. -/
def asmBackUptoCard : Claim7 := { stood := { row := asmBackUptoRow, standIns := [], harness := (true, "9cda480ef91bd2c0de699e74648d4e360d8aa1c3c754d7a72576c11af41e3c4b"), looks := true }, kinds := [], alts := [], laidByText := true, laidKinds := [.data, .data, .data, .data, .sentinel, .sentinel, .pinned], laidTests := true, laidLooks := .later }
def AsmBackUptoCardSaid : Prop := Claim7.holds Tryd.pinned (.plain (OpenSpec.upto asmBackSpec)) asmBackUptoCard

/-- THE SECOND FORM's CARD OF 'warrenerlaw13.AsmNotes'. -/
def asmNotesUptoCard : Claim7 := { stood := { row := asmNotesUptoRow, standIns := [], harness := (true, "9cda480ef91bd2c0de699e74648d4e360d8aa1c3c754d7a72576c11af41e3c4b"), looks := true }, kinds := [], alts := [], laidByText := true, laidKinds := [.data, .data, .data, .data, .sentinel, .sentinel, .pinned], laidTests := true, laidLooks := .later }
def AsmNotesUptoCardSaid : Prop := Claim7.holds Tryd.pinned (.plain (OpenSpec.upto asmNotesSpec)) asmNotesUptoCard
end Rows
end Go.Proofs.YtjpddfnkamahfaaDoor
