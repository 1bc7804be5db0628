/-
  DERIVED. GIVEN WITH THE SEED: THE CARDS: each row of YtgcdimfbkpbhnaaDoorRows.lean that lists a variable, with what it lists TIED to the program's text (the seventh form; the later family's looks); each row that meets fmt, with fmt's text TOLD by the authors' own Lean function (tested against real Go, not proved from fmt's source: count such statements apart). THE CARD IS WHAT COUNTS. Prove the row's statement (the work); the ties are given (YtgcdimfbkpbhnaaDoorTie.lean); close each card by the builder's one call (the guide's Derived/Test/ToyasCard.lean, 'card_holds'). Laid BY PROGRAM, IN A SANDBOX (cutbox-door.mjs). By AI agents, Wed Nov 11 2026. No macro, syntax, notation, axiom, sorry.
-/
import Derived.Test.YtgcdimfbkpbhnaaDoorRows
import GoSem.ClaimSeven
namespace Go.Proofs.YtgcdimfbkpbhnaaDoor
namespace Rows

/-- THE TIED CARD OF 'warrenerlaw30.PickNames'. -/
def pickNamesCard : Claim7 := { stood := { row := pickNamesRow, standIns := [], harness := (true, "2f3c7e50e77dc2b5de1a38ce5743e04de885d843bc426649d6d67909a099a14d"), looks := false }, kinds := [], alts := [], laidByText := true, laidKinds := [.data, .data, .data], laidTests := true, laidLooks := .later }
def PickNamesCardSaid : Prop := Claim7.holds Tryd.pinned (.plain (OpenSpec.ofChange pickNamesSpec)) pickNamesCard

/-- THE TIED CARD OF 'warrenerlaw30.PickOctets'. -/
def pickOctetsCard : Claim7 := { stood := { row := pickOctetsRow, standIns := [], harness := (true, "2f3c7e50e77dc2b5de1a38ce5743e04de885d843bc426649d6d67909a099a14d"), looks := false }, kinds := [], alts := [], laidByText := true, laidKinds := [.data, .data, .data], laidTests := true, laidLooks := .later }
def PickOctetsCardSaid : Prop := Claim7.holds Tryd.pinned (.plain (OpenSpec.ofChange pickOctetsSpec)) pickOctetsCard

/-- THE TIED CARD OF 'warrenerlaw30.PickSwitches'. -/
def pickSwitchesCard : Claim7 := { stood := { row := pickSwitchesRow, standIns := [], harness := (true, "2f3c7e50e77dc2b5de1a38ce5743e04de885d843bc426649d6d67909a099a14d"), looks := false }, kinds := [], alts := [], laidByText := true, laidKinds := [.data, .data, .data], laidTests := true, laidLooks := .later }
def PickSwitchesCardSaid : Prop := Claim7.holds Tryd.pinned (.plain (OpenSpec.ofChange pickSwitchesSpec)) pickSwitchesCard

/-- THE TIED CARD OF 'warrenerlaw30.PickLists'. -/
def pickListsCard : Claim7 := { stood := { row := pickListsRow, standIns := [], harness := (true, "2f3c7e50e77dc2b5de1a38ce5743e04de885d843bc426649d6d67909a099a14d"), looks := false }, kinds := [], alts := [], laidByText := true, laidKinds := [.data, .data, .data], laidTests := true, laidLooks := .later }
def PickListsCardSaid : Prop := Claim7.holds Tryd.pinned (.plain (OpenSpec.ofChange pickListsSpec)) pickListsCard

/-- THE SECOND FORM's CARD OF 'warrenerlaw30.PickNames'. -/
def pickNamesUptoCard : Claim7 := { stood := { row := pickNamesUptoRow, standIns := [], harness := (true, "2f3c7e50e77dc2b5de1a38ce5743e04de885d843bc426649d6d67909a099a14d"), looks := false }, kinds := [], alts := [], laidByText := true, laidKinds := [.data, .data, .data], laidTests := true, laidLooks := .later }
def PickNamesUptoCardSaid : Prop := Claim7.holds Tryd.pinned (.plain (OpenSpec.upto pickNamesSpec)) pickNamesUptoCard

/-- THE SECOND FORM's CARD OF 'warrenerlaw30.PickOctets'. -/
def pickOctetsUptoCard : Claim7 := { stood := { row := pickOctetsUptoRow, standIns := [], harness := (true, "2f3c7e50e77dc2b5de1a38ce5743e04de885d843bc426649d6d67909a099a14d"), looks := false }, kinds := [], alts := [], laidByText := true, laidKinds := [.data, .data, .data], laidTests := true, laidLooks := .later }
def PickOctetsUptoCardSaid : Prop := Claim7.holds Tryd.pinned (.plain (OpenSpec.upto pickOctetsSpec)) pickOctetsUptoCard

/-- THE SECOND FORM's CARD OF 'warrenerlaw30.PickSwitches'. -/
def pickSwitchesUptoCard : Claim7 := { stood := { row := pickSwitchesUptoRow, standIns := [], harness := (true, "2f3c7e50e77dc2b5de1a38ce5743e04de885d843bc426649d6d67909a099a14d"), looks := false }, kinds := [], alts := [], laidByText := true, laidKinds := [.data, .data, .data], laidTests := true, laidLooks := .later }
def PickSwitchesUptoCardSaid : Prop := Claim7.holds Tryd.pinned (.plain (OpenSpec.upto pickSwitchesSpec)) pickSwitchesUptoCard

/-- THE SECOND FORM's CARD OF 'warrenerlaw30.PickLists'. -/
def pickListsUptoCard : Claim7 := { stood := { row := pickListsUptoRow, standIns := [], harness := (true, "2f3c7e50e77dc2b5de1a38ce5743e04de885d843bc426649d6d67909a099a14d"), looks := false }, kinds := [], alts := [], laidByText := true, laidKinds := [.data, .data, .data], laidTests := true, laidLooks := .later }
def PickListsUptoCardSaid : Prop := Claim7.holds Tryd.pinned (.plain (OpenSpec.upto pickListsSpec)) pickListsUptoCard
end Rows
end Go.Proofs.YtgcdimfbkpbhnaaDoor
