/-
 CellApart: the law answers true, whatever the image, the threaded code and the number. No condition.
-/
import Derived.Test.YtfplmcpkagpaiaaGreatDoorNo
import Derived.Test.YtfplmcpkagpaiaaGreatDoorLa
import Derived.Test.YtfplmcpkagpaiaaGreatDoorLg
import Derived.Test.YtfplmcpkagpaiaaGreatDoorTie
import Derived.Test.YtfplmcpkagpaiaaGreatDoorCards
import Derived.SevenTiedAt
set_option maxRecDepth 100000
set_option linter.unusedSimpArgs false
set_option linter.unusedVariables false
section
namespace Go.Proofs.YtfplmcpkagpaiaaGreatDoor.cellApart
open Go Go.Proofs.YtfplmcpkagpaiaaGreatDoor
theorem proved : Rows.CellApartCardSaid :=
 Claim7.holds_tied_plain_at .later [] [.data] true (true, "32c1b34041b5aa412e0fcfd4b48bd88f7494e341d9de23ac1fa29aded474c492") true
  over (fun _ h => by cases h) cWf (fun _ h => by cases h) cellApart_row_tie rfl ⟨rfl, rfl⟩ cMain rfl
  (fun f fn hf hfn => by
   obtain rfl : f = 3 := Option.some.inj (cName.symm.trans hf) |>.symm
   obtain rfl : fn = Tryz.f3 := (Option.some.inj (Tryz.func3.symm.trans hfn)).symm
   exact ⟨cLooks, fun j t ht => by
    rw [Tryz.params3] at ht
    rcases j with _ | _ | _ | j
    ·obtain rfl : t = 28 := by simpa using ht.symm
     exact cStand28
    ·obtain rfl : t = 31 := by simpa using ht.symm
     exact cStand31
    ·obtain rfl : t = 3 := by simpa using ht.symm
     exact cStand3
    ·simp at ht⟩)
  cGoes
#print axioms proved
end Go.Proofs.YtfplmcpkagpaiaaGreatDoor.cellApart
end
