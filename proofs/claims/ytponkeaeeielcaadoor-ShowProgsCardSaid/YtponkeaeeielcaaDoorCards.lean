/-
  DERIVED. GIVEN WITH THE SEED: THE CARDS: each row of YtponkeaeeielcaaDoorRows.lean that lists a variable, with what it lists TIED to the program's text (the seventh form; the later family's looks); each row that meets fmt, with fmt's text TOLD by the authors' own Lean function (tested against real Go, not proved from fmt's source: count such statements apart). THE CARD IS WHAT COUNTS. Prove the row's statement (the work); the ties are given (YtponkeaeeielcaaDoorTie.lean); close each card by the builder's one call (the guide's Derived/Test/ToyasCard.lean, 'card_holds'). Laid BY PROGRAM, IN A SANDBOX (cutbox-door.mjs). By AI agents, Wed Nov 11 2026. No macro, syntax, notation, axiom, sorry.
-/
import Derived.Test.YtponkeaeeielcaaDoorRows
import GoSem.ClaimSeven
namespace Go.Proofs.YtponkeaeeielcaaDoor
namespace Rows

/-- THE TIED CARD OF 'warrenerlaw12.ShowInstrs'. -/
def showInstrsCard : Claim7 := { stood := { row := showInstrsRow, standIns := [], harness := (true, "e33a7e28196c13c31840b2150c132609bef397524f7a7a947d3829a4690337a7"), looks := false }, kinds := [], alts := [], laidByText := true, laidKinds := [.data, .data, .data], laidTests := true, laidLooks := .later }
def ShowInstrsCardSaid : Prop := Claim7.holds Tryd.pinned (.plain (OpenSpec.ofChange showInstrsSpec)) showInstrsCard

/-- THE TIED CARD OF 'warrenerlaw12.ShowProgs'. -/
def showProgsCard : Claim7 := { stood := { row := showProgsRow, standIns := [], harness := (true, "e33a7e28196c13c31840b2150c132609bef397524f7a7a947d3829a4690337a7"), looks := false }, kinds := [], alts := [], laidByText := true, laidKinds := [.data, .data, .data], laidTests := true, laidLooks := .later }
def ShowProgsCardSaid : Prop := Claim7.holds Tryd.pinned (.plain (OpenSpec.ofChange showProgsSpec)) showProgsCard

/-- THE SECOND FORM's CARD OF 'warrenerlaw12.ShowInstrs'. -/
def showInstrsUptoCard : Claim7 := { stood := { row := showInstrsUptoRow, standIns := [], harness := (true, "e33a7e28196c13c31840b2150c132609bef397524f7a7a947d3829a4690337a7"), looks := false }, kinds := [], alts := [], laidByText := true, laidKinds := [.data, .data, .data], laidTests := true, laidLooks := .later }
def ShowInstrsUptoCardSaid : Prop := Claim7.holds Tryd.pinned (.plain (OpenSpec.upto showInstrsSpec)) showInstrsUptoCard

/-- THE SECOND FORM's CARD OF 'warrenerlaw12.ShowProgs'. -/
def showProgsUptoCard : Claim7 := { stood := { row := showProgsUptoRow, standIns := [], harness := (true, "e33a7e28196c13c31840b2150c132609bef397524f7a7a947d3829a4690337a7"), looks := false }, kinds := [], alts := [], laidByText := true, laidKinds := [.data, .data, .data], laidTests := true, laidLooks := .later }
def ShowProgsUptoCardSaid : Prop := Claim7.holds Tryd.pinned (.plain (OpenSpec.upto showProgsSpec)) showProgsUptoCard
end Rows
end Go.Proofs.YtponkeaeeielcaaDoor
