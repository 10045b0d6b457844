/-
 The document's table of layer 7.
-/
import Derived.Test.YtfplmcpkagpaiaaGreatDoorFa
import Derived.Test.YtfplmcpkagpaiaaGreatDoorMe
set_option maxRecDepth 100000
set_option maxHeartbeats 0
set_option linter.unusedSimpArgs false
set_option linter.unusedVariables false
section
namespace Go.Proofs.YtfplmcpkagpaiaaGreatDoor.Fl
open Go Go.Sim
theorem row_pure {E : Env} {rec : Rec} {f : FuncId} {lent : Bool} {args : List V} {r : Row} {b : Bool} (h : (bodyV E rec f args [[]]).map (·.1) = some (.tuple [rowV r, bb b])) : pureV E rec f lent args = some (.tuple [rowV r, bb b]) := by
 obtain ⟨⟨r', H⟩, h1, h2⟩ := Option.map_eq_some_iff.1 h
 dsimp only at h2
 subst h2
 unfold pureV
 rw [h1]
 cases lent <;> simp
theorem RInfo_0 : (List.range' 0 10).map (fun (op : Nat) => (bodyV E (ev E 100) 101 [.int .u8 op] [[]]).map (·.1)) = (List.range' 0 10).map (fun (op : Nat) => some (.tuple [rowV (rowOf op), bb (isOp op)])) := by kernel_rfl
theorem RInfo_10 : (List.range' 10 10).map (fun (op : Nat) => (bodyV E (ev E 100) 101 [.int .u8 op] [[]]).map (·.1)) = (List.range' 10 10).map (fun (op : Nat) => some (.tuple [rowV (rowOf op), bb (isOp op)])) := by kernel_rfl
theorem RInfo_20 : (List.range' 20 10).map (fun (op : Nat) => (bodyV E (ev E 100) 101 [.int .u8 op] [[]]).map (·.1)) = (List.range' 20 10).map (fun (op : Nat) => some (.tuple [rowV (rowOf op), bb (isOp op)])) := by kernel_rfl
theorem RInfo_30 : (List.range' 30 10).map (fun (op : Nat) => (bodyV E (ev E 100) 101 [.int .u8 op] [[]]).map (·.1)) = (List.range' 30 10).map (fun (op : Nat) => some (.tuple [rowV (rowOf op), bb (isOp op)])) := by kernel_rfl
theorem RInfo_40 : (List.range' 40 10).map (fun (op : Nat) => (bodyV E (ev E 100) 101 [.int .u8 op] [[]]).map (·.1)) = (List.range' 40 10).map (fun (op : Nat) => some (.tuple [rowV (rowOf op), bb (isOp op)])) := by kernel_rfl
theorem RInfo_50 : (List.range' 50 10).map (fun (op : Nat) => (bodyV E (ev E 100) 101 [.int .u8 op] [[]]).map (·.1)) = (List.range' 50 10).map (fun (op : Nat) => some (.tuple [rowV (rowOf op), bb (isOp op)])) := by kernel_rfl
theorem RInfo_all {op : Nat} (h : op < 60) : (bodyV E (ev E 100) 101 [.int .u8 op] [[]]).map (·.1) = some (.tuple [rowV (rowOf op), bb (isOp op)]) := by
 have hm : ∀ a, a ≤ op → op < a + 10 → op ∈ List.range' a 10 := fun a h1 h2 => List.mem_range'_1.2 ⟨h1, h2⟩
 rcases Nat.lt_or_ge op 10 with h1 | h1
 ·exact of_map RInfo_0 (hm 0 (by omega) (by omega))
 rcases Nat.lt_or_ge op 20 with h2 | h2
 ·exact of_map RInfo_10 (hm 10 (by omega) (by omega))
 rcases Nat.lt_or_ge op 30 with h3 | h3
 ·exact of_map RInfo_20 (hm 20 (by omega) (by omega))
 rcases Nat.lt_or_ge op 40 with h4 | h4
 ·exact of_map RInfo_30 (hm 30 (by omega) (by omega))
 rcases Nat.lt_or_ge op 50 with h5 | h5
 ·exact of_map RInfo_40 (hm 40 (by omega) (by omega))
 ·exact of_map RInfo_50 (hm 50 (by omega) (by omega))
theorem RInfoN (lent) (op : Nat) (h256 : op < 256) : pureV E (om E) 101 lent [.int .u8 op] = some (.tuple [rowV (rowOf op), bb (isOp op)]) := by
 by_cases h60 : op < 60
 ·exact pure_eval (row_pure (RInfo_all h60))
 ·have hb : isOp op = false := by simp [isOp]; omega
  have hr : rowOf op = ⟨[], 0, 0, 0, 0, 0⟩ := by unfold rowOf; rw [hb]; rfl
  rw [hb, hr]
  apply pu_101
  simp (disch := omega) [if_pos, if_neg, iteK_pos, iteK_neg, Tryz.f101]
end Go.Proofs.YtfplmcpkagpaiaaGreatDoor.Fl
end
