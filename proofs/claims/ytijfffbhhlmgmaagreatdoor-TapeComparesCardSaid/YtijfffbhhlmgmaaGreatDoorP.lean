/-
 TapeCompares: the law answers true, whatever the two tapes. No condition.
-/
import Derived.Test.YtijfffbhhlmgmaaGreatDoorNo
import Derived.Test.YtijfffbhhlmgmaaGreatDoorLe
import Derived.Test.YtijfffbhhlmgmaaGreatDoorLg
import Derived.Test.YtijfffbhhlmgmaaGreatDoorTie
import Derived.Test.YtijfffbhhlmgmaaGreatDoorCards
import Derived.SevenTiedAt
section
namespace Go.Proofs.YtijfffbhhlmgmaaGreatDoor.tapeCompares
open Go Go.Proofs.YtijfffbhhlmgmaaGreatDoor
set_option linter.unusedVariables false
set_option maxRecDepth 100000
theorem proved : Rows.TapeComparesCardSaid :=
 Claim7.holds_tied_plain_at .later [] [.data] true (true, "bc8d2d5d981cb3bea2dfb76752c9e6d352c38367628e9a79c796d12c253d9c2d") true
  over (fun _ h => by cases h) cWf (fun _ h => by cases h) tapeCompares_row_tie rfl ⟨rfl, rfl⟩ cMain rfl
  (fun f fn hf hfn => by
   obtain rfl : f = 3 := Option.some.inj (cName.symm.trans hf) |>.symm
   obtain rfl : fn = Tryz.f3 := (Option.some.inj (Tryz.func3.symm.trans hfn)).symm
   exact ⟨cLooks, fun j t ht => by
    rw [Tryz.params3] at ht
    have h26 : t = 26 := by
     rcases j with _ | _ | j
     ·simpa using ht.symm
     ·simpa using ht.symm
     ·simp at ht
    subst h26
    exact cStand⟩)
  cGoes
#print axioms proved
end Go.Proofs.YtijfffbhhlmgmaaGreatDoor.tapeCompares
end
