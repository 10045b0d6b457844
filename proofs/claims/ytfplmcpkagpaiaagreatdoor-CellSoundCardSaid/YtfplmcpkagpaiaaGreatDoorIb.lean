/-
 Package isa: the table, Check, Size, read.
 Package isa: Check, Size, read.
 Package isa: Decode.
 image.Parse.
-/
import Derived.Test.YtfplmcpkagpaiaaGreatDoorIa
import Derived.Test.YtfplmcpkagpaiaaGreatDoorMe
set_option maxRecDepth 100000
set_option linter.unusedSimpArgs false
set_option linter.unusedVariables false
section
namespace Go.Proofs.YtfplmcpkagpaiaaGreatDoor
open Go Go.Sim
theorem pure_eval {E : Env} {n : Nat} {f : FuncId} {lent : Bool} {args : List V} {r : V} (h : pureV E (ev E n) f lent args = some r) : pureV E (om E) f lent args = some r :=
 (pureV_fs E f lent args).mono (fun c s r hr => (om_iff E).mpr ⟨n, hr⟩) h
theorem of_map {α β : Type} {f g : α → β} {l : List α} (h : l.map f = l.map g) {x : α} (hx : x ∈ l) : f x = g x := List.map_inj_left.mp h x hx
structure Row where
 word : List UInt8
 width : Nat
 most : Nat
 takes : Nat
 gives : Nat
 kind : Nat
abbrev rowV (r : Row) : V := .agg [.str r.word, .int .i64 r.width, .int .u32 r.most, .int .i64 r.takes, .int .i64 r.gives, .int .u8 r.kind]
def rowFrom : Option V → Row
 | some (.tuple [.agg [.str w, .int _ a, .int _ b, .int _ c, .int _ d, .int _ e], _]) => ⟨w, a.toNat, b.toNat, c.toNat, d.toNat, e.toNat⟩
 | _ => ⟨[], 0, 0, 0, 0, 0⟩
def isOp (op : Nat) : Bool := decide (1 ≤ op ∧ op ≤ 59)
@[irreducible] noncomputable def rowOf (op : Nat) : Row := if isOp op then rowFrom (pureV E (ev E 60) 34 false [.int .u8 op]) else ⟨[], 0, 0, 0, 0, 0⟩
theorem Info_f : (List.range 60).map (fun (op : Nat) => pureV E (ev E 60) 34 false [.int .u8 op]) = (List.range 60).map (fun (op : Nat) => some (.tuple [rowV (rowOf op), bb (isOp op)])) := by kernel_rfl
theorem Info_t : (List.range 60).map (fun (op : Nat) => pureV E (ev E 60) 34 true [.int .u8 op]) = (List.range 60).map (fun (op : Nat) => some (.tuple [rowV (rowOf op), bb (isOp op)])) := by kernel_rfl
theorem Info (lent) (op : UInt8) : pureV E (om E) 34 lent [.int .u8 op.toNat] = some (.tuple [rowV (rowOf op.toNat), bb (isOp op.toNat)]) := by
 by_cases h60 : op.toNat < 60
 ·have h : op.toNat ∈ List.range 60 := List.mem_range.mpr h60
  cases lent
  ·exact pure_eval (of_map Info_f h)
  ·exact pure_eval (of_map Info_t h)
 ·have hb : isOp op.toNat = false := by simp [isOp]; omega
  have hr : rowOf op.toNat = ⟨[], 0, 0, 0, 0, 0⟩ := by unfold rowOf; rw [hb]; rfl
  rw [hb, hr]
  have := op.toNat_lt
  apply pu_34
  simp (disch := omega) [if_pos, if_neg, iteK_pos, iteK_neg, Tryz.f34]
theorem rowOf_all : (List.range 60).all (fun op => decide ((rowOf op).width ≤ 4 ∧ (rowOf op).most < 4294967296 ∧ (rowOf op).most < 256 ^ (rowOf op).width)) = true := by kernel_rfl
theorem rowOf_some (op : UInt8) : (rowOf op.toNat).width ≤ 4 ∧ (rowOf op.toNat).most < 4294967296 ∧ (rowOf op.toNat).most < 256 ^ (rowOf op.toNat).width := by
 by_cases h60 : op.toNat < 60
 ·have := List.all_eq_true.mp rowOf_all op.toNat (List.mem_range.mpr h60)
  simpa using this
 ·have hb : isOp op.toNat = false := by simp [isOp]; omega
  have hr : rowOf op.toNat = ⟨[], 0, 0, 0, 0, 0⟩ := by unfold rowOf; rw [hb]; rfl
  rw [hr]; simp
end Go.Proofs.YtfplmcpkagpaiaaGreatDoor
end
section
namespace Go.Proofs.YtfplmcpkagpaiaaGreatDoor
open Go Go.Sim
structure Instr where
 op : UInt8
 arg : UInt32
 deriving DecidableEq
abbrev insV (i : Instr) : V := .agg [w8 i.op.toNat, w32 i.arg.toNat]
def eInstr : Enc Instr where
 enc i := [w8 i.op.toNat, w32 i.arg.toNat]
 k := 2
 pos := by omega
 len := fun _ => rfl
 canon := fun _ => by simp
 flat := fun _ => by simp
 ok := fun _ => by simp
@[simp] theorem eInstr_k : eInstr.k = 2 := rfl
@[simp] theorem eInstr_enc (s) : eInstr.enc s = [w8 s.op.toNat, w32 s.arg.toNat] := rfl
@[simp] theorem plain_eInstr (l : List Instr) : V.plainL (cat eInstr l) = true := cat_plain eInstr (fun _ => by simp) l
@[simp] theorem cut_eInstr (l : List Instr) : cutCells (cat eInstr l) 0 l.length 2 = cat eInstr l := cut_all eInstr rfl rfl
@[simp] theorem fold_eInstr (l : List Instr) : V.scon (cat eInstr l) 0 l.length false = lst eInstr l := rfl
noncomputable def insBad (i : Instr) : Nat := if isOp i.op.toNat then (if (rowOf i.op.toNat).most < i.arg.toNat then 71 else 0) else 70
theorem IsaCheck (lent) (i : Instr) : pureV E (om E) 38 lent [insV i] = some (ii (insBad i)) := by
 apply pu_38
 obtain ⟨hw, hm, hp⟩ := rowOf_some i.op
 by_cases h1 : isOp i.op.toNat = true <;> by_cases h2 : (rowOf i.op.toNat).most < i.arg.toNat <;> simp (disch := omega) [if_pos, if_neg, iteK_pos, iteK_neg, Tryz.f38, Info, h1, h2, insBad]
theorem IsaSize (lent) (i : Instr) : pureV E (om E) 75 lent [insV i] = some (ii (if insBad i = 0 then 1 + (rowOf i.op.toNat).width else 0)) := by
 apply pu_75
 obtain ⟨hw, hm, hp⟩ := rowOf_some i.op
 have := i.arg.toNat_lt
 by_cases h : insBad i = 0 <;> simp (disch := omega) [if_pos, if_neg, iteK_pos, iteK_neg, Tryz.f75, Info, IsaCheck, h]
end Go.Proofs.YtfplmcpkagpaiaaGreatDoor
end
section
namespace Go.Proofs.YtfplmcpkagpaiaaGreatDoor
open Go Go.Sim
section
variable (l : List UInt8) (LB : Blk)
end
end Go.Proofs.YtfplmcpkagpaiaaGreatDoor
end
section
namespace Go.Proofs.YtfplmcpkagpaiaaGreatDoor
open Go Go.Sim
structure Img where
 code : List Instr
 jumps : List UInt32
 data : List UInt8
 zero : UInt32
 stack : UInt32
 names : List Export
abbrev imgV (x : Img) : V := .agg [lst eInstr x.code, ws x.jumps, bs x.data, w32 x.zero.toNat, w32 x.stack.toNat, lst eExport x.names]
def stackOk (n : UInt32) : Bool := decide (n.toNat % 4 = 0 ∧ 64 ≤ n.toNat ∧ n.toNat ≤ 32768)
end Go.Proofs.YtfplmcpkagpaiaaGreatDoor
end
