/-
  DERIVED. GIVEN WITH THE SEED: THE CARDS: each row of YtpggdafhpdipjaaDoorRows.lean that lists a variable, with what it lists TIED to the program's text (the seventh form; the later family's looks); each row that meets fmt, with fmt's text TOLD by the authors' own Lean function (tested against real Go, not proved from fmt's source: count such statements apart). THE CARD IS WHAT COUNTS. Prove the row's statement (the work); the ties are given (YtpggdafhpdipjaaDoorTie.lean); close each card by the builder's one call (the guide's Derived/Test/ToyasCard.lean, 'card_holds'). Laid BY PROGRAM, IN A SANDBOX (cutbox-door.mjs). By AI agents, Wed Nov 11 2026. No macro, syntax, notation, axiom, sorry.
-/
import Derived.Test.YtpggdafhpdipjaaDoorRows
import GoSem.ClaimSeven
namespace Go.Proofs.YtpggdafhpdipjaaDoor
namespace Rows

/-- THE TIED CARD OF 'warrenerlaw04.SetOf'. -/
def setOfCard : Claim7 := { stood := { row := setOfRow, standIns := [], harness := (true, "59b006fdf07125831664e6b15b6ece04678c5038f817c6eac7ea758d2e5e3c64"), looks := false }, kinds := [], alts := [], laidByText := true, laidKinds := [.data], laidTests := true, laidLooks := .later }
def SetOfCardSaid : Prop := Claim7.holds Tryd.pinned (.plain (OpenSpec.ofChange setOfSpec)) setOfCard

/-- THE TIED CARD OF 'warrenerlaw04.SetTurns'. -/
def setTurnsCard : Claim7 := { stood := { row := setTurnsRow, standIns := [], harness := (true, "59b006fdf07125831664e6b15b6ece04678c5038f817c6eac7ea758d2e5e3c64"), looks := false }, kinds := [], alts := [], laidByText := true, laidKinds := [.data], laidTests := true, laidLooks := .later }
def SetTurnsCardSaid : Prop := Claim7.holds Tryd.pinned (.plain (OpenSpec.ofChange setTurnsSpec)) setTurnsCard

/-- THE TIED CARD OF 'warrenerlaw04.SetFirst'. -/
def setFirstCard : Claim7 := { stood := { row := setFirstRow, standIns := [], harness := (true, "59b006fdf07125831664e6b15b6ece04678c5038f817c6eac7ea758d2e5e3c64"), looks := false }, kinds := [], alts := [], laidByText := true, laidKinds := [.data], laidTests := true, laidLooks := .later }
def SetFirstCardSaid : Prop := Claim7.holds Tryd.pinned (.plain (OpenSpec.ofChange setFirstSpec)) setFirstCard

/-- THE SECOND FORM's CARD OF 'warrenerlaw04.SetOf'. -/
def setOfUptoCard : Claim7 := { stood := { row := setOfUptoRow, standIns := [], harness := (true, "59b006fdf07125831664e6b15b6ece04678c5038f817c6eac7ea758d2e5e3c64"), looks := false }, kinds := [], alts := [], laidByText := true, laidKinds := [.data], laidTests := true, laidLooks := .later }
def SetOfUptoCardSaid : Prop := Claim7.holds Tryd.pinned (.plain (OpenSpec.upto setOfSpec)) setOfUptoCard

/-- THE SECOND FORM's CARD OF 'warrenerlaw04.SetTurns'. -/
def setTurnsUptoCard : Claim7 := { stood := { row := setTurnsUptoRow, standIns := [], harness := (true, "59b006fdf07125831664e6b15b6ece04678c5038f817c6eac7ea758d2e5e3c64"), looks := false }, kinds := [], alts := [], laidByText := true, laidKinds := [.data], laidTests := true, laidLooks := .later }
def SetTurnsUptoCardSaid : Prop := Claim7.holds Tryd.pinned (.plain (OpenSpec.upto setTurnsSpec)) setTurnsUptoCard

/-- THE SECOND FORM's CARD OF 'warrenerlaw04.SetFirst'. -/
def setFirstUptoCard : Claim7 := { stood := { row := setFirstUptoRow, standIns := [], harness := (true, "59b006fdf07125831664e6b15b6ece04678c5038f817c6eac7ea758d2e5e3c64"), looks := false }, kinds := [], alts := [], laidByText := true, laidKinds := [.data], laidTests := true, laidLooks := .later }
def SetFirstUptoCardSaid : Prop := Claim7.holds Tryd.pinned (.plain (OpenSpec.upto setFirstSpec)) setFirstUptoCard
end Rows
end Go.Proofs.YtpggdafhpdipjaaDoor
