/-
  DERIVED. GIVEN WITH THE SEED: THE CARDS: each row of YtkjhopnhphiiaaaDoorRows.lean that lists a variable, with what it lists TIED to the program's text (the seventh form; the later family's looks); each row that meets fmt, with fmt's text TOLD by the authors' own Lean function (tested against real Go, not proved from fmt's source: count such statements apart). THE CARD IS WHAT COUNTS. Prove the row's statement (the work); the ties are given (YtkjhopnhphiiaaaDoorTie.lean); close each card by the builder's one call (the guide's Derived/Test/ToyasCard.lean, 'card_holds'). Laid BY PROGRAM, IN A SANDBOX (cutbox-door.mjs). By AI agents, Wed Nov 11 2026. No macro, syntax, notation, axiom, sorry.
-/
import Derived.Test.YtkjhopnhphiiaaaDoorRows
import GoSem.ClaimSeven
namespace Go.Proofs.YtkjhopnhphiiaaaDoor
namespace Rows

/-- THE TIED CARD OF 'warrenerlaw18.PlaceTells'. -/
def placeTellsCard : Claim7 := { stood := { row := placeTellsRow, standIns := [], harness := (true, "fe97da3acfe2ad5a28a7b959f7ed2b88b21292bbff8e8fd7db5e93f3b8686d98"), looks := false }, kinds := [], alts := [], laidByText := true, laidKinds := [.data, .data, .data], laidTests := true, laidLooks := .later }
def PlaceTellsCardSaid : Prop := Claim7.holds Tryd.pinned (.plain (OpenSpec.ofChange placeTellsSpec)) placeTellsCard

/-- THE TIED CARD OF 'warrenerlaw18.PlaceAll'. -/
def placeAllCard : Claim7 := { stood := { row := placeAllRow, standIns := [], harness := (true, "fe97da3acfe2ad5a28a7b959f7ed2b88b21292bbff8e8fd7db5e93f3b8686d98"), looks := false }, kinds := [], alts := [], laidByText := true, laidKinds := [.data, .data, .data], laidTests := true, laidLooks := .later }
def PlaceAllCardSaid : Prop := Claim7.holds Tryd.pinned (.plain (OpenSpec.ofChange placeAllSpec)) placeAllCard

/-- THE TIED CARD OF 'warrenerlaw18.PlaceOrders'. -/
def placeOrdersCard : Claim7 := { stood := { row := placeOrdersRow, standIns := [], harness := (true, "fe97da3acfe2ad5a28a7b959f7ed2b88b21292bbff8e8fd7db5e93f3b8686d98"), looks := false }, kinds := [], alts := [], laidByText := true, laidKinds := [.data, .data, .data], laidTests := true, laidLooks := .later }
def PlaceOrdersCardSaid : Prop := Claim7.holds Tryd.pinned (.plain (OpenSpec.ofChange placeOrdersSpec)) placeOrdersCard

/-- THE TIED CARD OF 'warrenerlaw18.PlaceTexts'. -/
def placeTextsCard : Claim7 := { stood := { row := placeTextsRow, standIns := [], harness := (true, "fe97da3acfe2ad5a28a7b959f7ed2b88b21292bbff8e8fd7db5e93f3b8686d98"), looks := false }, kinds := [], alts := [], laidByText := true, laidKinds := [.data, .data, .data], laidTests := true, laidLooks := .later }
def PlaceTextsCardSaid : Prop := Claim7.holds Tryd.pinned (.plain (OpenSpec.ofChange placeTextsSpec)) placeTextsCard

/-- THE SECOND FORM's CARD OF 'warrenerlaw18.PlaceTells'. -/
def placeTellsUptoCard : Claim7 := { stood := { row := placeTellsUptoRow, standIns := [], harness := (true, "fe97da3acfe2ad5a28a7b959f7ed2b88b21292bbff8e8fd7db5e93f3b8686d98"), looks := false }, kinds := [], alts := [], laidByText := true, laidKinds := [.data, .data, .data], laidTests := true, laidLooks := .later }
def PlaceTellsUptoCardSaid : Prop := Claim7.holds Tryd.pinned (.plain (OpenSpec.upto placeTellsSpec)) placeTellsUptoCard

/-- THE SECOND FORM's CARD OF 'warrenerlaw18.PlaceAll'. -/
def placeAllUptoCard : Claim7 := { stood := { row := placeAllUptoRow, standIns := [], harness := (true, "fe97da3acfe2ad5a28a7b959f7ed2b88b21292bbff8e8fd7db5e93f3b8686d98"), looks := false }, kinds := [], alts := [], laidByText := true, laidKinds := [.data, .data, .data], laidTests := true, laidLooks := .later }
def PlaceAllUptoCardSaid : Prop := Claim7.holds Tryd.pinned (.plain (OpenSpec.upto placeAllSpec)) placeAllUptoCard

/-- THE SECOND FORM's CARD OF 'warrenerlaw18.PlaceOrders'. -/
def placeOrdersUptoCard : Claim7 := { stood := { row := placeOrdersUptoRow, standIns := [], harness := (true, "fe97da3acfe2ad5a28a7b959f7ed2b88b21292bbff8e8fd7db5e93f3b8686d98"), looks := false }, kinds := [], alts := [], laidByText := true, laidKinds := [.data, .data, .data], laidTests := true, laidLooks := .later }
def PlaceOrdersUptoCardSaid : Prop := Claim7.holds Tryd.pinned (.plain (OpenSpec.upto placeOrdersSpec)) placeOrdersUptoCard

/-- THE SECOND FORM's CARD OF 'warrenerlaw18.PlaceTexts'. -/
def placeTextsUptoCard : Claim7 := { stood := { row := placeTextsUptoRow, standIns := [], harness := (true, "fe97da3acfe2ad5a28a7b959f7ed2b88b21292bbff8e8fd7db5e93f3b8686d98"), looks := false }, kinds := [], alts := [], laidByText := true, laidKinds := [.data, .data, .data], laidTests := true, laidLooks := .later }
def PlaceTextsUptoCardSaid : Prop := Claim7.holds Tryd.pinned (.plain (OpenSpec.upto placeTextsSpec)) placeTextsUptoCard
end Rows
end Go.Proofs.YtkjhopnhphiiaaaDoor
