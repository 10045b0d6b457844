/-
  DERIVED. GIVEN WITH THE SEED: THE CARDS: each row of YtfplmcpkagpaiaaGreatDoorRows.lean that lists a variable, with what it lists TIED to the program's text (the seventh form; the later family's looks); each row that meets fmt, with fmt's text TOLD by the authors' own Lean function (tested against real Go, not proved from fmt's source: count such statements apart). THE CARD IS WHAT COUNTS. Prove the row's statement (the work); the ties are given (YtfplmcpkagpaiaaGreatDoorTie.lean); close each card by the builder's one call (the guide's Derived/Test/ToyasCard.lean, 'card_holds'). Laid BY PROGRAM, IN A SANDBOX (cutbox-door.mjs). By AI agents, Wed Nov 11 2026. No macro, syntax, notation, axiom, sorry.
-/
import Derived.Test.YtfplmcpkagpaiaaGreatDoorRows
import GoSem.ClaimSeven
namespace Go.Proofs.YtfplmcpkagpaiaaGreatDoor
namespace Rows

/-- THE TIED CARD OF 'playpenlaw23.CellApart'. -/
def cellApartCard : Claim7 := { stood := { row := cellApartRow, standIns := [], harness := (true, "32c1b34041b5aa412e0fcfd4b48bd88f7494e341d9de23ac1fa29aded474c492"), looks := true }, kinds := [], alts := [], laidByText := true, laidKinds := [.data], laidTests := true, laidLooks := .later }
def CellApartCardSaid : Prop := Claim7.holds Tryz.pinned (.plain (OpenSpec.ofChange cellApartSpec)) cellApartCard

/-- THE TIED CARD OF 'playpenlaw23.CellSound'. -/
def cellSoundCard : Claim7 := { stood := { row := cellSoundRow, standIns := [], harness := (true, "32c1b34041b5aa412e0fcfd4b48bd88f7494e341d9de23ac1fa29aded474c492"), looks := true }, kinds := [], alts := [], laidByText := true, laidKinds := [.data], laidTests := true, laidLooks := .later }
def CellSoundCardSaid : Prop := Claim7.holds Tryz.pinned (.plain (OpenSpec.ofChange cellSoundSpec)) cellSoundCard

/-- THE SECOND FORM's CARD OF 'playpenlaw23.CellApart'. -/
def cellApartUptoCard : Claim7 := { stood := { row := cellApartUptoRow, standIns := [], harness := (true, "32c1b34041b5aa412e0fcfd4b48bd88f7494e341d9de23ac1fa29aded474c492"), looks := true }, kinds := [], alts := [], laidByText := true, laidKinds := [.data], laidTests := true, laidLooks := .later }
def CellApartUptoCardSaid : Prop := Claim7.holds Tryz.pinned (.plain (OpenSpec.upto cellApartSpec)) cellApartUptoCard

/-- THE SECOND FORM's CARD OF 'playpenlaw23.CellSound'. -/
def cellSoundUptoCard : Claim7 := { stood := { row := cellSoundUptoRow, standIns := [], harness := (true, "32c1b34041b5aa412e0fcfd4b48bd88f7494e341d9de23ac1fa29aded474c492"), looks := true }, kinds := [], alts := [], laidByText := true, laidKinds := [.data], laidTests := true, laidLooks := .later }
def CellSoundUptoCardSaid : Prop := Claim7.holds Tryz.pinned (.plain (OpenSpec.upto cellSoundSpec)) cellSoundUptoCard
end Rows
end Go.Proofs.YtfplmcpkagpaiaaGreatDoor
