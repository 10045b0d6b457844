/-
  TapeSwaps: the row.
-/
import Derived.Test.YtijfffbhhlmgmaaGreatDoorNt
import Derived.Test.YtijfffbhhlmgmaaGreatDoorLn
section
namespace Go.Proofs.YtijfffbhhlmgmaaGreatDoor.tapeSwaps
open Go Go.Sim Go.Sim.Kr Go.Proofs.YtijfffbhhlmgmaaGreatDoor Go.ChangeShapes Go.WideShapes Go.ChangeAt Go.WideMaps Go.WideElems Go.RowKit
set_option linter.unusedVariables false
set_option maxRecDepth 100000
theorem over : Rows.TapeSwapsSaid :=
  OpenClaim.holds_of_wide 4 Tryz.f4 rfl rfl rfl rfl rfl rfl rfl ⟨rfl, rfl, rfl, rfl, rfl⟩ rfl rfl rfl rfl rfl (by kernel_rfl) Tryz.func4 closed
    (of_decide_eq_true (by kernel_rfl)) (by unfold Func.isWrapper; first | (rw [if_pos (by decide +kernel)]; kernel_rfl) | (rw [if_neg (by decide +kernel)]; exact ⟨rfl, rfl⟩))
    (fun os started H enc _ => lifted os started H enc)
end Go.Proofs.YtijfffbhhlmgmaaGreatDoor.tapeSwaps
end
