/-
  DERIVED. GIVEN WITH THE SEED: THE CARDS: each row of YtaffaliplmfagaaGreatDoorRows.lean that lists a variable, with what it lists TIED to the program's text (the seventh form; the later family's looks); each row that meets fmt, with fmt's text TOLD by the authors' own Lean function (tested against real Go, not proved from fmt's source: count such statements apart). THE CARD IS WHAT COUNTS. Prove the row's statement (the work); the ties are given (YtaffaliplmfagaaGreatDoorTie.lean); close each card by the builder's one call (the guide's Derived/Test/ToyasCard.lean, 'card_holds'). Laid BY PROGRAM, IN A SANDBOX (cutbox-door.mjs). By AI agents, Wed Nov 11 2026. No macro, syntax, notation, axiom, sorry.
-/
import Derived.Test.YtaffaliplmfagaaGreatDoorRows
import GoSem.ClaimSeven
namespace Go.Proofs.YtaffaliplmfagaaGreatDoor
namespace Rows

/-- THE TIED CARD OF 'warrenerlaw40.PaperBack'. -/
def paperBackCard : Claim7 := { stood := { row := paperBackRow, standIns := [], harness := (true, "a9600983b9365f8bf0a8cbb8ace136ab7ba2595c1300bd0bad3c889312782976"), looks := true }, kinds := [], alts := [], laidByText := true, laidKinds := [.data, .data, .data, .data, .sentinel, .sentinel, .pinned], laidTests := true, laidLooks := .later }
def PaperBackCardSaid : Prop := Claim7.holds Tryz.pinned (.plain (OpenSpec.ofChange paperBackSpec)) paperBackCard

/-- THE TIED CARD OF 'warrenerlaw40.PaperParses'. -/
def paperParsesCard : Claim7 := { stood := { row := paperParsesRow, standIns := [], harness := (true, "a9600983b9365f8bf0a8cbb8ace136ab7ba2595c1300bd0bad3c889312782976"), looks := true }, kinds := [], alts := [], laidByText := true, laidKinds := [.data, .data, .data, .data, .sentinel, .sentinel, .pinned], laidTests := true, laidLooks := .later }
def PaperParsesCardSaid : Prop := Claim7.holds Tryz.pinned (.plain (OpenSpec.ofChange paperParsesSpec)) paperParsesCard

/-- THE SECOND FORM's CARD OF 'warrenerlaw40.PaperBack'. -/
def paperBackUptoCard : Claim7 := { stood := { row := paperBackUptoRow, standIns := [], harness := (true, "a9600983b9365f8bf0a8cbb8ace136ab7ba2595c1300bd0bad3c889312782976"), looks := true }, kinds := [], alts := [], laidByText := true, laidKinds := [.data, .data, .data, .data, .sentinel, .sentinel, .pinned], laidTests := true, laidLooks := .later }
def PaperBackUptoCardSaid : Prop := Claim7.holds Tryz.pinned (.plain (OpenSpec.upto paperBackSpec)) paperBackUptoCard

/-- THE SECOND FORM's CARD OF 'warrenerlaw40.PaperParses'. -/
def paperParsesUptoCard : Claim7 := { stood := { row := paperParsesUptoRow, standIns := [], harness := (true, "a9600983b9365f8bf0a8cbb8ace136ab7ba2595c1300bd0bad3c889312782976"), looks := true }, kinds := [], alts := [], laidByText := true, laidKinds := [.data, .data, .data, .data, .sentinel, .sentinel, .pinned], laidTests := true, laidLooks := .later }
def PaperParsesUptoCardSaid : Prop := Claim7.holds Tryz.pinned (.plain (OpenSpec.upto paperParsesSpec)) paperParsesUptoCard
end Rows
end Go.Proofs.YtaffaliplmfagaaGreatDoor
