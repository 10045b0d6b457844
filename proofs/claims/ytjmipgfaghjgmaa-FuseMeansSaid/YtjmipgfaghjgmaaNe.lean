/-
  Package isa: the table, Check.
-/
import Derived.Test.YtjmipgfaghjgmaaNd
import Derived.Test.YtjmipgfaghjgmaaMd
section
namespace Go.Proofs.Ytjmipgfaghjgmaa
open Go Go.Sim
set_option maxRecDepth 100000
set_option linter.unusedSimpArgs false
set_option linter.unusedVariables false

/-- What is computed with a bound on the steps is so without one. -/
theorem pure_eval {E : Env} {n : Nat} {f : FuncId} {lent : Bool} {args : List V} {r : V} (h : pureV E (ev E n) f lent args = some r) : pureV E (om E) f lent args = some r :=
  (pureV_fs E f lent args).mono (fun c s r hr => (om_iff E).mpr ⟨n, hr⟩) h
theorem of_map {α β : Type} {f g : α → β} {l : List α} (h : l.map f = l.map g) {x : α} (hx : x ∈ l) : f x = g x := List.map_inj_left.mp h x hx

structure Row where
  word : List UInt8
  width : Nat
  most : Nat
  takes : Nat
  gives : Nat
  kind : Nat
abbrev rowV (r : Row) : V := .agg [.str r.word, .int .i64 r.width, .int .u32 r.most, .int .i64 r.takes, .int .i64 r.gives, .int .u8 r.kind]
def rowFrom : Option V → Row
  | some (.tuple [.agg [.str w, .int _ a, .int _ b, .int _ c, .int _ d, .int _ e], _]) => ⟨w, a.toNat, b.toNat, c.toNat, d.toNat, e.toNat⟩
  | _ => ⟨[], 0, 0, 0, 0, 0⟩
def isOp (op : Nat) : Bool := decide (1 ≤ op ∧ op ≤ 59)
/-- The row of an operation, as the program has it. -/
@[irreducible] noncomputable def rowOf (op : Nat) : Row := if isOp op then rowFrom (pureV E (ev E 60) 19 false [.int .u8 op]) else ⟨[], 0, 0, 0, 0, 0⟩
theorem Info_f : (List.range 60).map (fun (op : Nat) => pureV E (ev E 60) 19 false [.int .u8 op]) = (List.range 60).map (fun (op : Nat) => some (.tuple [rowV (rowOf op), bb (isOp op)])) := by kernel_rfl
theorem Info_t : (List.range 60).map (fun (op : Nat) => pureV E (ev E 60) 19 true [.int .u8 op]) = (List.range 60).map (fun (op : Nat) => some (.tuple [rowV (rowOf op), bb (isOp op)])) := by kernel_rfl
theorem rowOf_none {op : Nat} (hb : isOp op = false) : rowOf op = ⟨[], 0, 0, 0, 0, 0⟩ := by unfold rowOf; rw [hb]; rfl
theorem Info (lent) (op : Nat) : pureV E (om E) 19 lent [.int .u8 op] = some (.tuple [rowV (rowOf op), bb (isOp op)]) := by
  by_cases h60 : op < 60
  · have h : op ∈ List.range 60 := List.mem_range.mpr h60
    cases lent
    · exact pure_eval (of_map Info_f h)
    · exact pure_eval (of_map Info_t h)
  · have hb : isOp op = false := by simp [isOp]; omega
    rw [hb, rowOf_none hb]
    apply pu_19
    simp (disch := omega) [if_pos, if_neg, iteK_pos, iteK_neg, Try.f19]
/-- width, most, takes, gives, kind, by operation. -/
def rowTable : List (Nat × Nat × Nat × Nat × Nat) := [(0, 0, 0, 0, 0), (0, 0, 0, 0, 1), (0, 0, 0, 0, 8), (2, 65535, 0, 0, 6), (2, 65535, 1, 0, 7), (0, 0, 1, 1, 5), (2, 16383, 0, 0, 3), (0, 0, 1, 0, 4), (4, 4294967295, 0, 1, 1), (4, 4294967295, 0, 1, 1), (0, 0, 1, 0, 1), (0, 0, 1, 2, 1), (1, 14, 1, 0, 1), (2, 16383, 2, 0, 2), (2, 16383, 2, 0, 2), (2, 16383, 2, 0, 2), (2, 16383, 2, 0, 2), (2, 16383, 2, 0, 2), (2, 16383, 2, 0, 2), (2, 16383, 2, 0, 2), (2, 16383, 2, 0, 2), (2, 16383, 2, 0, 2), (2, 16383, 2, 0, 2), (2, 16383, 2, 0, 2), (2, 16383, 2, 0, 2), (2, 16383, 2, 0, 2), (2, 16383, 2, 0, 2), (2, 16383, 2, 0, 2), (2, 16383, 2, 0, 2), (0, 0, 1, 1, 1), (0, 0, 1, 1, 1), (0, 0, 1, 1, 1), (0, 0, 2, 0, 1), (0, 0, 2, 0, 1), (0, 0, 2, 0, 1), (2, 256, 2, 0, 1), (0, 0, 1, 1, 1), (0, 0, 1, 1, 1), (0, 0, 1, 1, 1), (0, 0, 2, 1, 1), (0, 0, 2, 1, 1), (0, 0, 2, 1, 1), (0, 0, 2, 1, 1), (0, 0, 2, 1, 1), (0, 0, 2, 1, 1), (0, 0, 2, 1, 1), (0, 0, 2, 1, 1), (0, 0, 2, 1, 1), (0, 0, 2, 1, 1), (0, 0, 1, 1, 1), (0, 0, 2, 1, 1), (0, 0, 2, 1, 1), (0, 0, 2, 1, 1), (0, 0, 1, 1, 1), (0, 0, 2, 1, 1), (0, 0, 2, 1, 1), (0, 0, 2, 1, 1), (0, 0, 2, 1, 1), (0, 0, 1, 1, 1), (0, 0, 1, 1, 1)]
theorem rows_eq : (List.range 60).map (fun op => ((rowOf op).width, (rowOf op).most, (rowOf op).takes, (rowOf op).gives, (rowOf op).kind)) = rowTable := by kernel_rfl
def rowG (op : Nat) : Nat × Nat × Nat × Nat × Nat := rowTable.getD op (0, 0, 0, 0, 0)
theorem rowOf_eq (op : Nat) : ((rowOf op).width, (rowOf op).most, (rowOf op).takes, (rowOf op).gives, (rowOf op).kind) = rowG op := by
  unfold rowG
  rw [← rows_eq, List.getD_eq_getElem?_getD, List.getElem?_map]
  by_cases h : op < 60
  · rw [List.getElem?_range h]; rfl
  · rw [List.getElem?_eq_none (by simp; omega), rowOf_none (by simp [isOp]; omega)]; rfl
def mostF (op : Nat) : Nat := (rowG op).2.1
def takesF (op : Nat) : Nat := (rowG op).2.2.1
def givesF (op : Nat) : Nat := (rowG op).2.2.2.1
def kindF (op : Nat) : Nat := (rowG op).2.2.2.2
theorem most_eq (op : Nat) : (rowOf op).most = mostF op := by unfold mostF; rw [← rowOf_eq]
theorem takes_eq (op : Nat) : (rowOf op).takes = takesF op := by unfold takesF; rw [← rowOf_eq]
theorem gives_eq (op : Nat) : (rowOf op).gives = givesF op := by unfold givesF; rw [← rowOf_eq]
theorem kind_eq (op : Nat) : (rowOf op).kind = kindF op := by unfold kindF; rw [← rowOf_eq]

structure Instr where
  op : Nat
  arg : Nat
  deriving DecidableEq, Inhabited
abbrev insV (i : Instr) : V := .agg [.int .u8 i.op, .int .u32 i.arg]
def eInstr : Enc Instr where
  enc i := [.int .u8 i.op, .int .u32 i.arg]
  k := 2
  pos := by omega
  len := fun _ => rfl
  canon := fun _ => by simp
  flat := fun _ => by simp
  ok := fun _ => by simp
@[simp] theorem eInstr_k : eInstr.k = 2 := rfl
@[simp] theorem eInstr_enc (s) : eInstr.enc s = [.int .u8 s.op, .int .u32 s.arg] := rfl
@[simp] theorem plain_eInstr (l : List Instr) : V.plainL (cat eInstr l) = true := cat_plain eInstr (fun _ => by simp) l
@[simp] theorem take_eInstr (l : List Instr) (n : Nat) : (cat eInstr l).take (n * 2) = cat eInstr (l.take n) := cat_take eInstr l n
@[simp] theorem cut_eInstr (l : List Instr) : cutCells (cat eInstr l) 0 l.length 2 = cat eInstr l := cut_all eInstr rfl rfl
@[simp] theorem fold_eInstr (l : List Instr) : V.scon (cat eInstr l) 0 l.length false = lst eInstr l := rfl

/-- What is wrong with an instruction by itself. -/
def insBad (i : Instr) : Nat := if isOp i.op then (if mostF i.op < i.arg then 71 else 0) else 70
theorem IsaCheck (lent) (i : Instr) : pureV E (om E) 17 lent [insV i] = some (ii (insBad i)) := by
  apply pu_17
  by_cases h1 : isOp i.op = true <;> by_cases h2 : mostF i.op < i.arg <;> simp (disch := omega) [if_pos, if_neg, iteK_pos, iteK_neg, Try.f17, Info, h1, h2, insBad, most_eq]
end Go.Proofs.Ytjmipgfaghjgmaa
end
