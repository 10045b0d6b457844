/-
  DERIVED. GIVEN WITH THE SEED: THE CARDS: each row of YtijfffbhhlmgmaaGreatDoorRows.lean that lists a variable, with what it lists TIED to the program's text (the seventh form; the later family's looks); each row that meets fmt, with fmt's text TOLD by the authors' own Lean function (tested against real Go, not proved from fmt's source: count such statements apart). THE CARD IS WHAT COUNTS. Prove the row's statement (the work); the ties are given (YtijfffbhhlmgmaaGreatDoorTie.lean); close each card by the builder's one call (the guide's Derived/Test/ToyasCard.lean, 'card_holds'). Laid BY PROGRAM, IN A SANDBOX (cutbox-door.mjs). By AI agents, Wed Nov 11 2026. No macro, syntax, notation, axiom, sorry.
-/
import Derived.Test.YtijfffbhhlmgmaaGreatDoorRows
import GoSem.ClaimSeven
namespace Go.Proofs.YtijfffbhhlmgmaaGreatDoor
namespace Rows

/-- THE TIED CARD OF 'playpenlaw27.TapeCompares'. -/
def tapeComparesCard : Claim7 := { stood := { row := tapeComparesRow, standIns := [], harness := (true, "bc8d2d5d981cb3bea2dfb76752c9e6d352c38367628e9a79c796d12c253d9c2d"), looks := true }, kinds := [], alts := [], laidByText := true, laidKinds := [.data], laidTests := true, laidLooks := .later }
def TapeComparesCardSaid : Prop := Claim7.holds Tryz.pinned (.plain (OpenSpec.ofChange tapeComparesSpec)) tapeComparesCard

/-- THE TIED CARD OF 'playpenlaw27.TapeSwaps'. -/
def tapeSwapsCard : Claim7 := { stood := { row := tapeSwapsRow, standIns := [], harness := (true, "bc8d2d5d981cb3bea2dfb76752c9e6d352c38367628e9a79c796d12c253d9c2d"), looks := true }, kinds := [], alts := [], laidByText := true, laidKinds := [.data], laidTests := true, laidLooks := .later }
def TapeSwapsCardSaid : Prop := Claim7.holds Tryz.pinned (.plain (OpenSpec.ofChange tapeSwapsSpec)) tapeSwapsCard

/-- THE SECOND FORM's CARD OF 'playpenlaw27.TapeCompares'. -/
def tapeComparesUptoCard : Claim7 := { stood := { row := tapeComparesUptoRow, standIns := [], harness := (true, "bc8d2d5d981cb3bea2dfb76752c9e6d352c38367628e9a79c796d12c253d9c2d"), looks := true }, kinds := [], alts := [], laidByText := true, laidKinds := [.data], laidTests := true, laidLooks := .later }
def TapeComparesUptoCardSaid : Prop := Claim7.holds Tryz.pinned (.plain (OpenSpec.upto tapeComparesSpec)) tapeComparesUptoCard

/-- THE SECOND FORM's CARD OF 'playpenlaw27.TapeSwaps'. -/
def tapeSwapsUptoCard : Claim7 := { stood := { row := tapeSwapsUptoRow, standIns := [], harness := (true, "bc8d2d5d981cb3bea2dfb76752c9e6d352c38367628e9a79c796d12c253d9c2d"), looks := true }, kinds := [], alts := [], laidByText := true, laidKinds := [.data], laidTests := true, laidLooks := .later }
def TapeSwapsUptoCardSaid : Prop := Claim7.holds Tryz.pinned (.plain (OpenSpec.upto tapeSwapsSpec)) tapeSwapsUptoCard
end Rows
end Go.Proofs.YtijfffbhhlmgmaaGreatDoor
