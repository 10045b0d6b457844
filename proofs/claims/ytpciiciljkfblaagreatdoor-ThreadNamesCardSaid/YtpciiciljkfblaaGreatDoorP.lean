/-
  ThreadNames: the law answers true. No condition.
-/
import Derived.Test.YtpciiciljkfblaaGreatDoorNo
import Derived.Test.YtpciiciljkfblaaGreatDoorQe
import Derived.Test.YtpciiciljkfblaaGreatDoorLe
import Derived.Test.YtpciiciljkfblaaGreatDoorLg
import Derived.Test.YtpciiciljkfblaaGreatDoorTie
import Derived.Test.YtpciiciljkfblaaGreatDoorCards
import Derived.SevenTiedAt
section
namespace Go.Proofs.YtpciiciljkfblaaGreatDoor.threadNames
open Go Go.Proofs.YtpciiciljkfblaaGreatDoor
set_option linter.unusedVariables false
set_option maxRecDepth 100000
theorem proved : Rows.ThreadNamesCardSaid :=
  Claim7.holds_tied_plain_at .later [] [.data] true (true, "f579e3284a47d561ea7bbe19e3450de7054aaeb86340d9fa3a99f1e2dbb570bb") true
    (over evNames) (fun _ h => by cases h) cWf (fun _ h => by cases h) threadNames_row_tie rfl ⟨rfl, rfl⟩ cMain rfl
    (fun f fn hf hfn => by
      obtain rfl : f = 3 := Option.some.inj (cName.symm.trans hf) |>.symm
      obtain rfl : fn = Tryz.f3 := (Option.some.inj (Tryz.func3.symm.trans hfn)).symm
      exact ⟨cLooks, fun j t ht => by
        rw [Tryz.params3] at ht
        simp at ht⟩)
    cGoes
#print axioms proved
end Go.Proofs.YtpciiciljkfblaaGreatDoor.threadNames
end
