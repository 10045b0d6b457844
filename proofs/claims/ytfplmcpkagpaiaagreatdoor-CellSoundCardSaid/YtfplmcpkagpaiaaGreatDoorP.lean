/-
 CellSound: the law answers true, whatever the image. No condition.
-/
import Derived.Test.YtfplmcpkagpaiaaGreatDoorNo
import Derived.Test.YtfplmcpkagpaiaaGreatDoorLa
import Derived.Test.YtfplmcpkagpaiaaGreatDoorLg
import Derived.Test.YtfplmcpkagpaiaaGreatDoorTie
import Derived.Test.YtfplmcpkagpaiaaGreatDoorCards
import Derived.SevenTiedAt
set_option maxRecDepth 100000
set_option linter.unusedSimpArgs false
set_option linter.unusedVariables false
section
namespace Go.Proofs.YtfplmcpkagpaiaaGreatDoor.cellSound
open Go Go.Proofs.YtfplmcpkagpaiaaGreatDoor
theorem proved : Rows.CellSoundCardSaid :=
 Claim7.holds_tied_plain_at .later [] [.data] true (true, "32c1b34041b5aa412e0fcfd4b48bd88f7494e341d9de23ac1fa29aded474c492") true
  over (fun _ h => by cases h) cWf (fun _ h => by cases h) cellSound_row_tie rfl ⟨rfl, rfl⟩ cMain rfl
  (fun f fn hf hfn => by
   obtain rfl : f = 4 := Option.some.inj (cName.symm.trans hf) |>.symm
   obtain rfl : fn = Tryz.f4 := (Option.some.inj (Tryz.func4.symm.trans hfn)).symm
   exact ⟨cLooks, fun j t ht => by
    rw [Tryz.params4] at ht
    rcases j with _ | j
    ·obtain rfl : t = 28 := by simpa using ht.symm
     exact cStand28
    ·simp at ht⟩)
  cGoes
#print axioms proved
end Go.Proofs.YtfplmcpkagpaiaaGreatDoor.cellSound
end
