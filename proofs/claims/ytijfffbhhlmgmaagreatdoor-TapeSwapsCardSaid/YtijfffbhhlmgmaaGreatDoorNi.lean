/-
  A tape as an argument, by its contents.
  A tape as an argument, by its contents, with lists that memory holds.
  A tape that is an argument.
-/
import Derived.Test.YtijfffbhhlmgmaaGreatDoorMt
import Derived.Test.YtijfffbhhlmgmaaGreatDoorChecked
import Derived.KernelRfl
import Derived.Test.YtijfffbhhlmgmaaGreatDoorMe
section
namespace Go.Proofs.YtijfffbhhlmgmaaGreatDoor
open Go Go.Sim Go.Sim.Tape
set_option maxRecDepth 100000
section
variable {H : Type} {enc : TypeId × Value → H} {W : World}
theorem dU8 : Dec enc Tryz.prog W 5 1 (fun a : UInt8 => [u8V a]) := dec_u8 Tryz.underlying5 (by kernel_rfl)
theorem dU32 : Dec enc Tryz.prog W 40 1 (fun a : UInt32 => [u32V a]) := dec_u32 Tryz.underlying40 (by kernel_rfl)
theorem dU64 : Dec enc Tryz.prog W 22 1 (fun a : UInt64 => [u64V a]) := dec_u64 Tryz.underlying22 (by kernel_rfl)
theorem dInt : Dec enc Tryz.prog W 3 1 (fun a : Int => [.int .i64 a]) := dec_int Tryz.underlying3 (by kernel_rfl)
theorem dK36 : Dec enc Tryz.prog W 39 1 (fun a : UInt8 => [u8V a]) := dec_u8 Tryz.underlying39 (by kernel_rfl)
theorem dK39 : Dec enc Tryz.prog W 43 1 (fun a : UInt8 => [u8V a]) := dec_u8 Tryz.underlying43 (by kernel_rfl)
theorem dK40 : Dec enc Tryz.prog W 44 1 (fun a : UInt8 => [u8V a]) := dec_u8 Tryz.underlying44 (by kernel_rfl)
theorem dGr : Dec enc Tryz.prog W 67 2 eGr.enc := (dec_two Tryz.underlying67 (by kernel_rfl) rfl rfl dU32 dInt).map (fun x => ⟨x.1, x.2⟩) (fun _ => rfl)
end
end Go.Proofs.YtijfffbhhlmgmaaGreatDoor
end
section
namespace Go.Proofs.YtijfffbhhlmgmaaGreatDoor
open Go Go.Sim Go.Sim.Tape
set_option maxRecDepth 100000
section
variable {H : Type} {enc : TypeId × Value → H} {W : World}
theorem wBs : DecW enc Tryz.prog W 55 1 (fun l : List UInt8 => [bs l]) (fun l => l.length ≤ 140737488351232) :=
  (decW_list eU8 Tryz.underlying55 (by kernel_rfl) dU8.light).map id (fun _ => rfl) (fun l h => by rw [show Tryz.prog.bytesOf 5 = 1 by kernel_rfl] at h; simpa using h.1)
theorem wWs : DecW enc Tryz.prog W 41 1 (fun l : List UInt32 => [ws l]) (fun l => l.length * 4 ≤ 140737488351232) :=
  (decW_list eU32 Tryz.underlying41 (by kernel_rfl) dU32.light).map id (fun _ => rfl) (fun l h => by rw [show Tryz.prog.bytesOf 40 = 4 by kernel_rfl] at h; exact h.1)
theorem wWr : DecW enc Tryz.prog W 57 2 eWr.enc FWr := (decW_two Tryz.underlying57 (by kernel_rfl) rfl rfl dU32.light wBs).map (fun x => ⟨x.1, x.2⟩) (fun _ => rfl) (fun x h => ⟨h.2⟩)
theorem wRp : DecW enc Tryz.prog W 54 2 eRp.enc FRp :=
  (decW_two Tryz.underlying54 (by kernel_rfl) rfl rfl dU32.light (decW_list eWr Tryz.underlying52 (by kernel_rfl) wWr)).map (fun x => ⟨x.1, x.2⟩) (fun _ => rfl)
    (fun x h => ⟨by have := h.2.1; rwa [show Tryz.prog.bytesOf 57 = 32 by kernel_rfl] at this, h.2.2⟩)
theorem wEv : DecW enc Tryz.prog W 47 4 eEv.enc FEv := (decW_four Tryz.underlying47 (by kernel_rfl) rfl rfl rfl rfl dU32.light dU32.light wWs dU32.light).map (fun x => ⟨x.1, x.2.1, x.2.2.1, x.2.2.2⟩) (fun _ => rfl) (fun x h => ⟨h.2.2.1⟩)
theorem wRs : DecW enc Tryz.prog W 49 11 eRs.enc FRs :=
  (decW_eight Tryz.underlying49 (by kernel_rfl) rfl rfl rfl rfl rfl rfl rfl rfl dK39.light dU32.light dU32.light dK40.light dInt.light dInt.light (decW_list eEv Tryz.underlying45 (by kernel_rfl) wEv) wEv).map
    (fun x => ⟨x.1, x.2.1, x.2.2.1, x.2.2.2.1, x.2.2.2.2.1, x.2.2.2.2.2.1, x.2.2.2.2.2.2.1, x.2.2.2.2.2.2.2⟩) (fun _ => rfl)
    (fun x h => ⟨by have := h.2.2.2.2.2.2.1.1; rwa [show Tryz.prog.bytesOf 47 = 40 by kernel_rfl] at this, h.2.2.2.2.2.2.1.2, h.2.2.2.2.2.2.2⟩)
theorem wTk : DecW enc Tryz.prog W 51 16 eTk.enc FTk :=
  (decW_six Tryz.underlying51 (by kernel_rfl) rfl rfl rfl rfl rfl rfl dK36.light dU32.light wWs dInt.light (decW_list eRp Tryz.underlying42 (by kernel_rfl) wRp) wRs).map
    (fun x => ⟨x.1, x.2.1, x.2.2.1, x.2.2.2.1, x.2.2.2.2.1, x.2.2.2.2.2⟩) (fun _ => rfl)
    (fun x h => ⟨h.2.2.1, by have := h.2.2.2.2.1.1; rwa [show Tryz.prog.bytesOf 54 = 32 by kernel_rfl] at this, h.2.2.2.2.1.2, h.2.2.2.2.2⟩)
theorem wTp : DecW enc Tryz.prog W 26 3 (fun x : Tp => [u64V x.module, lst eGr x.grants, lst eTk x.takes]) FTp :=
  (decW_three Tryz.underlying26 (by kernel_rfl) rfl rfl rfl dU64.light (decW_list eGr Tryz.underlying23 (by kernel_rfl) dGr.light) (decW_list eTk Tryz.underlying24 (by kernel_rfl) wTk)).map
    (fun x => ⟨x.1, x.2.1, x.2.2⟩) (fun _ => rfl)
    (fun x h => ⟨by have := h.2.1.1; rwa [show Tryz.prog.bytesOf 67 = 16 by kernel_rfl] at this, by have := h.2.2.1; rwa [show Tryz.prog.bytesOf 51 = 160 by kernel_rfl] at this, h.2.2.2⟩)
end
end Go.Proofs.YtijfffbhhlmgmaaGreatDoor
end
section
namespace Go.Proofs.YtijfffbhhlmgmaaGreatDoor
open Go Go.Sim Go.Sim.Tape Go.RowKit Go.ChangeShapes Go.WideShapes Go.Deep
set_option maxRecDepth 100000
set_option linter.unusedVariables false
section
variable {H : Type} {enc : TypeId × Value → H} {W : World}
theorem tape_in {b0 : Nat} {v : Value} {d : DataW H} {ps : List MemPlace} (hv : Value.okWide Tryz.prog W .any b0 26 v) (hT : DataW.Trod enc Tryz.prog W 0 (fun _ => true) true 26 v d ps) :
    ∃ x : Tp, VRel (fun b _ => b < W.heap.size) W Bd.none_ (tpV x) v ∧ ∀ (j : Nat) ts ds, ts[j]? = some 26 → ds[j]? = some d → (DataW.weightsEach Tryz.prog ts ds).all (· ≤ reachBytes) = true → FTp x := by
  obtain ⟨cs, rfl, hlen, hcell⟩ := struct_cells (ts := [22, 23, 24]) Tryz.underlying26 (by kernel_rfl) (by kernel_rfl) hv
  obtain ⟨fuel, hf⟩ := hT
  obtain ⟨x, hx, hl⟩ := wTp.2 fuel _ _ hf
  refine ⟨x, ?_, fun j ts ds h1 h2 h3 => hl fun y hy => of_decide_eq_true (List.all_eq_true.1 h3 y (weight_each h1 h2 hy))⟩
  simp only [tpV, VRel]
  exact ⟨_, rfl, hx⟩
end
end Go.Proofs.YtijfffbhhlmgmaaGreatDoor
end
