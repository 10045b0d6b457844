/-
  DERIVED. GIVEN WITH THE SEED: THE CARDS: each row of YtpciiciljkfblaaGreatDoorRows.lean that lists a variable, with what it lists TIED to the program's text (the seventh form; the later family's looks); each row that meets fmt, with fmt's text TOLD by the authors' own Lean function (tested against real Go, not proved from fmt's source: count such statements apart). THE CARD IS WHAT COUNTS. Prove the row's statement (the work); the ties are given (YtpciiciljkfblaaGreatDoorTie.lean); close each card by the builder's one call (the guide's Derived/Test/ToyasCard.lean, 'card_holds'). Laid BY PROGRAM, IN A SANDBOX (cutbox-door.mjs). By AI agents, Wed Nov 11 2026. No macro, syntax, notation, axiom, sorry.
-/
import Derived.Test.YtpciiciljkfblaaGreatDoorRows
import GoSem.ClaimSeven
namespace Go.Proofs.YtpciiciljkfblaaGreatDoor
namespace Rows

/-- THE TIED CARD OF 'playpenlaw24.ThreadNames'. -/
def threadNamesCard : Claim7 := { stood := { row := threadNamesRow, standIns := [], harness := (true, "f579e3284a47d561ea7bbe19e3450de7054aaeb86340d9fa3a99f1e2dbb570bb"), looks := true }, kinds := [], alts := [], laidByText := true, laidKinds := [.data], laidTests := true, laidLooks := .later }
def ThreadNamesCardSaid : Prop := Claim7.holds Tryz.pinned (.plain (OpenSpec.ofChange threadNamesSpec)) threadNamesCard

/-- THE SECOND FORM's CARD OF 'playpenlaw24.ThreadNames'. -/
def threadNamesUptoCard : Claim7 := { stood := { row := threadNamesUptoRow, standIns := [], harness := (true, "f579e3284a47d561ea7bbe19e3450de7054aaeb86340d9fa3a99f1e2dbb570bb"), looks := true }, kinds := [], alts := [], laidByText := true, laidKinds := [.data], laidTests := true, laidLooks := .later }
def ThreadNamesUptoCardSaid : Prop := Claim7.holds Tryz.pinned (.plain (OpenSpec.upto threadNamesSpec)) threadNamesUptoCard
end Rows
end Go.Proofs.YtpciiciljkfblaaGreatDoor
