/-
  DERIVED. GIVEN WITH THE SEED: THE CARDS: each row of YtnggbfdnlmkklaaDoorRows.lean that lists a variable, with what it lists TIED to the program's text (the seventh form; the later family's looks); each row that meets fmt, with fmt's text TOLD by the authors' own Lean function (tested against real Go, not proved from fmt's source: count such statements apart). THE CARD IS WHAT COUNTS. Prove the row's statement (the work); the ties are given (YtnggbfdnlmkklaaDoorTie.lean); close each card by the builder's one call (the guide's Derived/Test/ToyasCard.lean, 'card_holds'). Laid BY PROGRAM, IN A SANDBOX (cutbox-door.mjs). By AI agents, Wed Nov 11 2026. No macro, syntax, notation, axiom, sorry.
-/
import Derived.Test.YtnggbfdnlmkklaaDoorRows
import GoSem.ClaimSeven
namespace Go.Proofs.YtnggbfdnlmkklaaDoor
namespace Rows

/-- THE TIED CARD OF 'warrenerlaw32.KeysOrder'. -/
def keysOrderCard : Claim7 := { stood := { row := keysOrderRow, standIns := [], harness := (true, "4a91f146d484403aa6aa7a3ede1b11ada8ddd142ec92c111cbbdd539e466de43"), looks := true }, kinds := [], alts := [], laidByText := true, laidKinds := [.data, .data, .data, .data, .sentinel, .sentinel, .pinned], laidTests := true, laidLooks := .later }
def KeysOrderCardSaid : Prop := Claim7.holds Tryd.pinned (.plain (OpenSpec.ofChange keysOrderSpec)) keysOrderCard

/-- THE TIED CARD OF 'warrenerlaw32.KeysTexts'. -/
def keysTextsCard : Claim7 := { stood := { row := keysTextsRow, standIns := [], harness := (true, "4a91f146d484403aa6aa7a3ede1b11ada8ddd142ec92c111cbbdd539e466de43"), looks := true }, kinds := [], alts := [], laidByText := true, laidKinds := [.data, .data, .data, .data, .sentinel, .sentinel, .pinned], laidTests := true, laidLooks := .later }
def KeysTextsCardSaid : Prop := Claim7.holds Tryd.pinned (.plain (OpenSpec.ofChange keysTextsSpec)) keysTextsCard

/-- THE TIED CARD OF 'warrenerlaw32.KeysAdd'. -/
def keysAddCard : Claim7 := { stood := { row := keysAddRow, standIns := [], harness := (true, "4a91f146d484403aa6aa7a3ede1b11ada8ddd142ec92c111cbbdd539e466de43"), looks := true }, kinds := [], alts := [], laidByText := true, laidKinds := [.data, .data, .data, .data, .sentinel, .sentinel, .pinned], laidTests := true, laidLooks := .later }
def KeysAddCardSaid : Prop := Claim7.holds Tryd.pinned (.plain (OpenSpec.ofChange keysAddSpec)) keysAddCard

/-- THE SECOND FORM's CARD OF 'warrenerlaw32.KeysOrder'. -/
def keysOrderUptoCard : Claim7 := { stood := { row := keysOrderUptoRow, standIns := [], harness := (true, "4a91f146d484403aa6aa7a3ede1b11ada8ddd142ec92c111cbbdd539e466de43"), looks := true }, kinds := [], alts := [], laidByText := true, laidKinds := [.data, .data, .data, .data, .sentinel, .sentinel, .pinned], laidTests := true, laidLooks := .later }
def KeysOrderUptoCardSaid : Prop := Claim7.holds Tryd.pinned (.plain (OpenSpec.upto keysOrderSpec)) keysOrderUptoCard

/-- THE SECOND FORM's CARD OF 'warrenerlaw32.KeysTexts'. -/
def keysTextsUptoCard : Claim7 := { stood := { row := keysTextsUptoRow, standIns := [], harness := (true, "4a91f146d484403aa6aa7a3ede1b11ada8ddd142ec92c111cbbdd539e466de43"), looks := true }, kinds := [], alts := [], laidByText := true, laidKinds := [.data, .data, .data, .data, .sentinel, .sentinel, .pinned], laidTests := true, laidLooks := .later }
def KeysTextsUptoCardSaid : Prop := Claim7.holds Tryd.pinned (.plain (OpenSpec.upto keysTextsSpec)) keysTextsUptoCard

/-- THE SECOND FORM's CARD OF 'warrenerlaw32.KeysAdd'. -/
def keysAddUptoCard : Claim7 := { stood := { row := keysAddUptoRow, standIns := [], harness := (true, "4a91f146d484403aa6aa7a3ede1b11ada8ddd142ec92c111cbbdd539e466de43"), looks := true }, kinds := [], alts := [], laidByText := true, laidKinds := [.data, .data, .data, .data, .sentinel, .sentinel, .pinned], laidTests := true, laidLooks := .later }
def KeysAddUptoCardSaid : Prop := Claim7.holds Tryd.pinned (.plain (OpenSpec.upto keysAddSpec)) keysAddUptoCard
end Rows
end Go.Proofs.YtnggbfdnlmkklaaDoor
