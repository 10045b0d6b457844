/-
  TapeNames: the law answers true. No condition.
-/
import Derived.Test.YtpciiciljkfblabGreatDoorNo
import Derived.Test.YtpciiciljkfblabGreatDoorQe
import Derived.Test.YtpciiciljkfblabGreatDoorLe
import Derived.Test.YtpciiciljkfblabGreatDoorLg
import Derived.Test.YtpciiciljkfblabGreatDoorTie
import Derived.Test.YtpciiciljkfblabGreatDoorCards
import Derived.SevenTiedAt
section
namespace Go.Proofs.YtpciiciljkfblabGreatDoor.tapeNames
open Go Go.Proofs.YtpciiciljkfblabGreatDoor
set_option linter.unusedVariables false
set_option maxRecDepth 100000
theorem proved : Rows.TapeNamesCardSaid :=
  Claim7.holds_tied_plain_at .later [] [.data] true (true, "11b4ac5cefed2460f42da7355bc1a2da92b01e8bab06a05fcbb59898d344c36b") true
    (over evNames) (fun _ h => by cases h) cWf (fun _ h => by cases h) tapeNames_row_tie rfl ⟨rfl, rfl⟩ cMain rfl
    (fun f fn hf hfn => by
      obtain rfl : f = 3 := Option.some.inj (cName.symm.trans hf) |>.symm
      obtain rfl : fn = Tryz.f3 := (Option.some.inj (Tryz.func3.symm.trans hfn)).symm
      exact ⟨cLooks, fun j t ht => by
        rw [Tryz.params3] at ht
        simp at ht⟩)
    cGoes
#print axioms proved
end Go.Proofs.YtpciiciljkfblabGreatDoor.tapeNames
end
