/-
  TapeSwaps: the law answers true, whatever the two tapes and the number. No condition.
-/
import Derived.Test.YtijfffbhhlmgmaaGreatDoorNo
import Derived.Test.YtijfffbhhlmgmaaGreatDoorLe
import Derived.Test.YtijfffbhhlmgmaaGreatDoorLg
import Derived.Test.YtijfffbhhlmgmaaGreatDoorTie
import Derived.Test.YtijfffbhhlmgmaaGreatDoorCards
import Derived.SevenTiedAt
section
namespace Go.Proofs.YtijfffbhhlmgmaaGreatDoor.tapeSwaps
open Go Go.Proofs.YtijfffbhhlmgmaaGreatDoor
set_option linter.unusedVariables false
set_option maxRecDepth 100000
theorem proved : Rows.TapeSwapsCardSaid :=
  Claim7.holds_tied_plain_at .later [] [.data] true (true, "bc8d2d5d981cb3bea2dfb76752c9e6d352c38367628e9a79c796d12c253d9c2d") true
    over (fun _ h => by cases h) cWf (fun _ h => by cases h) tapeSwaps_row_tie rfl ⟨rfl, rfl⟩ cMain rfl
    (fun f fn hf hfn => by
      obtain rfl : f = 4 := Option.some.inj (cName.symm.trans hf) |>.symm
      obtain rfl : fn = Tryz.f4 := (Option.some.inj (Tryz.func4.symm.trans hfn)).symm
      exact ⟨cLooks, fun j t ht => by
        rw [Tryz.params4] at ht
        have ht' : t = 26 ∨ t = 3 := by
          rcases j with _ | _ | _ | j
          · exact .inl (by simpa using ht.symm)
          · exact .inl (by simpa using ht.symm)
          · exact .inr (by simpa using ht.symm)
          · simp at ht
        rcases ht' with rfl | rfl
        · exact cStand
        · exact cStand3⟩)
    cGoes
#print axioms proved
end Go.Proofs.YtijfffbhhlmgmaaGreatDoor.tapeSwaps
end
