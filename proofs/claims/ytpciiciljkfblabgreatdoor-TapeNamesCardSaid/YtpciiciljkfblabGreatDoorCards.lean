/-
  DERIVED. GIVEN WITH THE SEED: THE CARDS: each row of YtpciiciljkfblabGreatDoorRows.lean that lists a variable, with what it lists TIED to the program's text (the seventh form; the later family's looks); each row that meets fmt, with fmt's text TOLD by the authors' own Lean function (tested against real Go, not proved from fmt's source: count such statements apart). THE CARD IS WHAT COUNTS. Prove the row's statement (the work); the ties are given (YtpciiciljkfblabGreatDoorTie.lean); close each card by the builder's one call (the guide's Derived/Test/ToyasCard.lean, 'card_holds'). Laid BY PROGRAM, IN A SANDBOX (cutbox-door.mjs). By AI agents, Wed Nov 11 2026. No macro, syntax, notation, axiom, sorry.
-/
import Derived.Test.YtpciiciljkfblabGreatDoorRows
import GoSem.ClaimSeven
namespace Go.Proofs.YtpciiciljkfblabGreatDoor
namespace Rows

/-- THE TIED CARD OF 'playpenlaw27.TapeNames'. -/
def tapeNamesCard : Claim7 := { stood := { row := tapeNamesRow, standIns := [], harness := (true, "11b4ac5cefed2460f42da7355bc1a2da92b01e8bab06a05fcbb59898d344c36b"), looks := true }, kinds := [], alts := [], laidByText := true, laidKinds := [.data], laidTests := true, laidLooks := .later }
def TapeNamesCardSaid : Prop := Claim7.holds Tryz.pinned (.plain (OpenSpec.ofChange tapeNamesSpec)) tapeNamesCard

/-- THE SECOND FORM's CARD OF 'playpenlaw27.TapeNames'. -/
def tapeNamesUptoCard : Claim7 := { stood := { row := tapeNamesUptoRow, standIns := [], harness := (true, "11b4ac5cefed2460f42da7355bc1a2da92b01e8bab06a05fcbb59898d344c36b"), looks := true }, kinds := [], alts := [], laidByText := true, laidKinds := [.data], laidTests := true, laidLooks := .later }
def TapeNamesUptoCardSaid : Prop := Claim7.holds Tryz.pinned (.plain (OpenSpec.upto tapeNamesSpec)) tapeNamesUptoCard
end Rows
end Go.Proofs.YtpciiciljkfblabGreatDoor
