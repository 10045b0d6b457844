/-
 Package isa: the table, Check.
 Plain facts: numbers as bytes.
 Package alu: Unary, Holds; package fold: the list.
-/
import Derived.Test.YtfplmcpkagpaiaaGreatDoorNk
import Derived.Test.YtfplmcpkagpaiaaGreatDoorMe
set_option maxRecDepth 100000
set_option linter.unusedSimpArgs false
set_option linter.unusedVariables false
section
namespace Go.Proofs.YtfplmcpkagpaiaaGreatDoor.Fl
open Go Go.Sim
theorem pure_eval {E : Env} {n : Nat} {f : FuncId} {lent : Bool} {args : List V} {r : V} (h : pureV E (ev E n) f lent args = some r) : pureV E (om E) f lent args = some r :=
 (pureV_fs E f lent args).mono (fun c s r hr => (om_iff E).mpr ⟨n, hr⟩) h
theorem of_map {α β : Type} {f g : α → β} {l : List α} (h : l.map f = l.map g) {x : α} (hx : x ∈ l) : f x = g x := List.map_inj_left.mp h x hx
structure Row where
 word : List UInt8
 width : Nat
 most : Nat
 takes : Nat
 gives : Nat
 kind : Nat
abbrev rowV (r : Row) : V := .agg [.str r.word, .int .i64 r.width, .int .u32 r.most, .int .i64 r.takes, .int .i64 r.gives, .int .u8 r.kind]
def rowFrom : Option V → Row
 | some (.tuple [.agg [.str w, .int _ a, .int _ b, .int _ c, .int _ d, .int _ e], _]) => ⟨w, a.toNat, b.toNat, c.toNat, d.toNat, e.toNat⟩
 | _ => ⟨[], 0, 0, 0, 0, 0⟩
def isOp (op : Nat) : Bool := decide (1 ≤ op ∧ op ≤ 59)
@[irreducible] noncomputable def rowOf (op : Nat) : Row := if isOp op then rowFrom (pureV E (ev E 60) 34 false [.int .u8 op]) else ⟨[], 0, 0, 0, 0, 0⟩
theorem Info_f : (List.range 60).map (fun (op : Nat) => pureV E (ev E 60) 34 false [.int .u8 op]) = (List.range 60).map (fun (op : Nat) => some (.tuple [rowV (rowOf op), bb (isOp op)])) := by kernel_rfl
theorem Info_t : (List.range 60).map (fun (op : Nat) => pureV E (ev E 60) 34 true [.int .u8 op]) = (List.range 60).map (fun (op : Nat) => some (.tuple [rowV (rowOf op), bb (isOp op)])) := by kernel_rfl
theorem rowOf_none {op : Nat} (hb : isOp op = false) : rowOf op = ⟨[], 0, 0, 0, 0, 0⟩ := by unfold rowOf; rw [hb]; rfl
theorem Info (lent) (op : Nat) : pureV E (om E) 34 lent [.int .u8 op] = some (.tuple [rowV (rowOf op), bb (isOp op)]) := by
 by_cases h60 : op < 60
 ·have h : op ∈ List.range 60 := List.mem_range.mpr h60
  cases lent
  ·exact pure_eval (of_map Info_f h)
  ·exact pure_eval (of_map Info_t h)
 ·have hb : isOp op = false := by simp [isOp]; omega
  rw [hb, rowOf_none hb]
  apply pu_34
  simp (disch := omega) [if_pos, if_neg, iteK_pos, iteK_neg, Tryz.f34]
def rowTable : List (Nat × Nat × Nat × Nat × Nat) := [(0, 0, 0, 0, 0), (0, 0, 0, 0, 1), (0, 0, 0, 0, 8), (2, 65535, 0, 0, 6), (2, 65535, 1, 0, 7), (0, 0, 1, 1, 5), (2, 16383, 0, 0, 3), (0, 0, 1, 0, 4), (4, 4294967295, 0, 1, 1), (4, 4294967295, 0, 1, 1), (0, 0, 1, 0, 1), (0, 0, 1, 2, 1), (1, 14, 1, 0, 1), (2, 16383, 2, 0, 2), (2, 16383, 2, 0, 2), (2, 16383, 2, 0, 2), (2, 16383, 2, 0, 2), (2, 16383, 2, 0, 2), (2, 16383, 2, 0, 2), (2, 16383, 2, 0, 2), (2, 16383, 2, 0, 2), (2, 16383, 2, 0, 2), (2, 16383, 2, 0, 2), (2, 16383, 2, 0, 2), (2, 16383, 2, 0, 2), (2, 16383, 2, 0, 2), (2, 16383, 2, 0, 2), (2, 16383, 2, 0, 2), (2, 16383, 2, 0, 2), (0, 0, 1, 1, 1), (0, 0, 1, 1, 1), (0, 0, 1, 1, 1), (0, 0, 2, 0, 1), (0, 0, 2, 0, 1), (0, 0, 2, 0, 1), (2, 256, 2, 0, 1), (0, 0, 1, 1, 1), (0, 0, 1, 1, 1), (0, 0, 1, 1, 1), (0, 0, 2, 1, 1), (0, 0, 2, 1, 1), (0, 0, 2, 1, 1), (0, 0, 2, 1, 1), (0, 0, 2, 1, 1), (0, 0, 2, 1, 1), (0, 0, 2, 1, 1), (0, 0, 2, 1, 1), (0, 0, 2, 1, 1), (0, 0, 2, 1, 1), (0, 0, 1, 1, 1), (0, 0, 2, 1, 1), (0, 0, 2, 1, 1), (0, 0, 2, 1, 1), (0, 0, 1, 1, 1), (0, 0, 2, 1, 1), (0, 0, 2, 1, 1), (0, 0, 2, 1, 1), (0, 0, 2, 1, 1), (0, 0, 1, 1, 1), (0, 0, 1, 1, 1)]
theorem rows_eq : (List.range 60).map (fun op => ((rowOf op).width, (rowOf op).most, (rowOf op).takes, (rowOf op).gives, (rowOf op).kind)) = rowTable := by kernel_rfl
def rowG (op : Nat) : Nat × Nat × Nat × Nat × Nat := rowTable.getD op (0, 0, 0, 0, 0)
theorem rowOf_eq (op : Nat) : ((rowOf op).width, (rowOf op).most, (rowOf op).takes, (rowOf op).gives, (rowOf op).kind) = rowG op := by
 unfold rowG
 rw [← rows_eq, List.getD_eq_getElem?_getD, List.getElem?_map]
 by_cases h : op < 60
 ·rw [List.getElem?_range h]; rfl
 ·rw [List.getElem?_eq_none (by simp; omega), rowOf_none (by simp [isOp]; omega)]; rfl
def mostF (op : Nat) : Nat := (rowG op).2.1
def takesF (op : Nat) : Nat := (rowG op).2.2.1
def givesF (op : Nat) : Nat := (rowG op).2.2.2.1
def kindF (op : Nat) : Nat := (rowG op).2.2.2.2
theorem most_eq (op : Nat) : (rowOf op).most = mostF op := by unfold mostF; rw [← rowOf_eq]
theorem takes_eq (op : Nat) : (rowOf op).takes = takesF op := by unfold takesF; rw [← rowOf_eq]
theorem gives_eq (op : Nat) : (rowOf op).gives = givesF op := by unfold givesF; rw [← rowOf_eq]
theorem kind_eq (op : Nat) : (rowOf op).kind = kindF op := by unfold kindF; rw [← rowOf_eq]
structure Instr where
 op : Nat
 arg : Nat
 deriving DecidableEq, Inhabited
abbrev insV (i : Instr) : V := .agg [.int .u8 i.op, .int .u32 i.arg]
def eInstr : Enc Instr where
 enc i := [.int .u8 i.op, .int .u32 i.arg]
 k := 2
 pos := by omega
 len := fun _ => rfl
 canon := fun _ => by simp
 flat := fun _ => by simp
 ok := fun _ => by simp
@[simp] theorem eInstr_k : eInstr.k = 2 := rfl
@[simp] theorem eInstr_enc (s) : eInstr.enc s = [.int .u8 s.op, .int .u32 s.arg] := rfl
@[simp] theorem plain_eInstr (l : List Instr) : V.plainL (cat eInstr l) = true := cat_plain eInstr (fun _ => by simp) l
@[simp] theorem cut_eInstr (l : List Instr) : cutCells (cat eInstr l) 0 l.length 2 = cat eInstr l := cut_all eInstr rfl rfl
@[simp] theorem fold_eInstr (l : List Instr) : V.scon (cat eInstr l) 0 l.length false = lst eInstr l := rfl
def insBad (i : Instr) : Nat := if isOp i.op then (if mostF i.op < i.arg then 71 else 0) else 70
theorem IsaCheck (lent) (i : Instr) : pureV E (om E) 38 lent [insV i] = some (ii (insBad i)) := by
 apply pu_38
 by_cases h1 : isOp i.op = true <;> by_cases h2 : mostF i.op < i.arg <;> simp (disch := omega) [if_pos, if_neg, iteK_pos, iteK_neg, Tryz.f38, Info, h1, h2, insBad, most_eq]
end Go.Proofs.YtfplmcpkagpaiaaGreatDoor.Fl
end
section
namespace Go.Proofs.YtfplmcpkagpaiaaGreatDoor
open Go Go.Sim
def word4 (a b c d : UInt8) : UInt32 := UInt32.ofNat (a.toNat + 256 * b.toNat + 65536 * c.toNat + 16777216 * d.toNat)
def wordAt (l : List UInt8) (at_ : Nat) : UInt32 := match l.drop at_ with | a :: b :: c :: d :: _ => word4 a b c d | _ => 0
theorem drop4 {l : List UInt8} {n : Nat} (h : n + 4 ≤ l.length) : ∃ a b c d r, l.drop n = a :: b :: c :: d :: r := by
 have hl : 4 ≤ (l.drop n).length := by simp; omega
 match hd : l.drop n, hl with
 | a :: b :: c :: d :: r, _ => exact ⟨a, b, c, d, r, rfl⟩
def bytes4 (x : UInt32) : List UInt8 := [UInt8.ofNat (x.toNat % 256), UInt8.ofNat (x.toNat / 256 % 256), UInt8.ofNat (x.toNat / 65536 % 256), UInt8.ofNat (x.toNat / 16777216 % 256)]
@[simp] theorem bytes4_length (x : UInt32) : (bytes4 x).length = 4 := rfl
@[simp] theorem take_bytes4 (x : UInt32) : (bytes4 x).take 4 = bytes4 x := rfl
def words : List UInt32 → List UInt8
 | [] => []
 | x :: r => bytes4 x ++ words r
theorem words_append : ∀ a b : List UInt32, words (a ++ b) = words a ++ words b
 | [], b => rfl
 | x :: r, b => by simp [words, words_append r b]
theorem words_length : ∀ l : List UInt32, (words l).length = 4 * l.length
 | [] => rfl
 | x :: r => by simp [words, words_length r]; omega
theorem take_snoc {α : Type} {l : List α} {i : Nat} (h : i < l.length) : l.take (i + 1) = l.take i ++ [l[i]] := by simp
def sumStep (s : Int × Int) (x : UInt8) : Int × Int := ((s.1 + x.toNat) % 65521, (s.2 + (s.1 + x.toNat) % 65521) % 65521)
def sums (l : List UInt8) (s : Int × Int) : Int × Int := l.foldl sumStep s
theorem sums_append (a b : List UInt8) (s : Int × Int) : sums (a ++ b) s = sums b (sums a s) := by simp [sums]
theorem sums_fits (l : List UInt8) (s : Int × Int) (h : 0 ≤ s.1 ∧ s.1 < 65521 ∧ 0 ≤ s.2 ∧ s.2 < 65521) : 0 ≤ (sums l s).1 ∧ (sums l s).1 < 65521 ∧ 0 ≤ (sums l s).2 ∧ (sums l s).2 < 65521 := by
 induction l generalizing s with
 | nil => exact h
 | cons x l ih => exact ih _ (by simp only [sumStep]; omega)
def adler (l : List UInt8) : UInt32 := UInt32.ofNat ((sums l (1, 0)).2 * 65536 + (sums l (1, 0)).1).toNat
theorem adler_toNat (l : List UInt8) : ((adler l).toNat : Int) = (sums l (1, 0)).2 * 65536 + (sums l (1, 0)).1 := by
 have := sums_fits l (1, 0) (by simp)
 unfold adler
 rw [UInt32.toNat_ofNat']
 omega
def with4 (l : List UInt8) (n : Nat) (x : UInt32) : List UInt8 := l.take n ++ bytes4 x ++ l.drop (n + 4)
theorem with4_length {l : List UInt8} {n : Nat} (x : UInt32) (h : n + 4 ≤ l.length) : (with4 l n x).length = l.length := by simp [with4]; omega
end Go.Proofs.YtfplmcpkagpaiaaGreatDoor
end
section
namespace Go.Proofs.YtfplmcpkagpaiaaGreatDoor.Fl
open Go Go.Sim
theorem un_not32 (a : Int) : unV .xor (.int .u32 a) = some (.int .u32 (IntKind.u32.wrap (xorI 32 4294967295 a))) := rfl
theorem Turned (lent) (a : Nat) : pureV E (om E) 139 lent [.int .u32 a] = some (.int .u32 (IntKind.u32.wrap (xorI 32 a 2147483648))) := by
 apply pu_139
 simp (disch := omega) [if_pos, if_neg, iteK_pos, iteK_neg, Tryz.f139]
def unI (op a : Nat) : Int :=
 match op with
 | 36 => IntKind.u32.wrap (IntKind.i8.wrap a)
 | 37 => IntKind.u32.wrap (IntKind.i16.wrap a)
 | 38 => IntKind.u32.wrap (-(a : Int))
 | 49 => IntKind.u32.wrap (xorI 32 4294967295 a)
 | 53 => IntKind.u32.wrap (xorI 32 a 2147483648)
 | 58 => ofF (IntKind.i32.wrap a)
 | 59 => IntKind.u32.wrap (towardF a)
 | _ => 0
def isUn (op : Nat) : Bool := decide (op = 36 ∨ op = 37 ∨ op = 38 ∨ op = 49 ∨ op = 53 ∨ op = 58 ∨ op = 59)
def unW (op a : Nat) : Nat := (unI op a).toNat
theorem unI_nonneg (op a : Nat) : 0 ≤ unI op a := by
 unfold unI
 split
 all_goals first | exact u32_nonneg _ | exact wordF_nonneg _ | omega
theorem unW_cast (op a : Nat) : ((unW op a : Nat) : Int) = unI op a := by
 have := unI_nonneg op a
 unfold unW; omega
theorem Unary (lent) (op a : Nat) : pureV E (om E) 134 lent [.int .u8 op, .int .u32 a] = some (.tuple [.int .u32 (unW op a), ii (if isUn op then 0 else 61)]) := by
 rw [unW_cast]
 have hc : op = 36 ∨ op = 37 ∨ op = 38 ∨ op = 49 ∨ op = 53 ∨ op = 58 ∨ op = 59 ∨ (op ≠ 36 ∧ op ≠ 37 ∧ op ≠ 38 ∧ op ≠ 49 ∧ op ≠ 53 ∧ op ≠ 58 ∧ op ≠ 59) := by omega
 apply pu_134
 rcases hc with rfl | rfl | rfl | rfl | rfl | rfl | rfl | hc
 case inr.inr.inr.inr.inr.inr.inr =>
  have hb : isUn op = false := by simp [isUn]; omega
  have hi : unI op a = 0 := by unfold unI; split <;> omega
  simp (disch := omega) [if_pos, if_neg, iteK_pos, iteK_neg, Tryz.f134, hb, hi]
 all_goals simp (disch := omega) [if_pos, if_neg, iteK_pos, iteK_neg, Tryz.f134, un_not32, isUn, unI, Turned]
def floatH (op : Nat) (s : Int) : Bool :=
 match op with
 | 23 => decide (s = 3)
 | 24 => decide (s ≠ 3)
 | 25 => decide (s = 2)
 | 26 => decide (s = 2 ∨ s = 3)
 | 27 => decide (s = 4)
 | 28 => decide (s = 4 ∨ s = 3)
 | _ => false
def isFl (op : Nat) : Bool := decide (23 ≤ op ∧ op ≤ 28)
theorem FloatC (lent) (op : Nat) (s : Int) : pureV E (om E) 135 lent [.int .u8 op, .int .u8 s] = some (.tuple [.bool (floatH op s), ii (if isFl op then 0 else 61)]) := by
 have hc : op = 23 ∨ op = 24 ∨ op = 25 ∨ op = 26 ∨ op = 27 ∨ op = 28 ∨ (op < 23 ∨ 28 < op) := by omega
 apply pu_135
 rcases hc with rfl | rfl | rfl | rfl | rfl | rfl | hc
 case inr.inr.inr.inr.inr.inr =>
  have hb : isFl op = false := by simp [isFl]; omega
  have hi : floatH op s = false := by unfold floatH; split <;> first | rfl | omega
  simp (disch := omega) [if_pos, if_neg, iteK_pos, iteK_neg, Tryz.f135, hb, hi]
 all_goals
  have hs : s = 2 ∨ s = 3 ∨ s = 4 ∨ (s ≠ 2 ∧ s ≠ 3 ∧ s ≠ 4) := by omega
  rcases hs with rfl | rfl | rfl | ⟨h2, h3, h4⟩
  all_goals first | (simp (disch := omega) [if_pos, if_neg, iteK_pos, iteK_neg, Tryz.f135, isFl, floatH]; done) | simp (disch := omega) [if_pos, if_neg, iteK_pos, iteK_neg, Tryz.f135, isFl, floatH, h2, h3, h4]
def holdsF (op a b : Nat) : Bool :=
 match op with
 | 13 => decide (a = b)
 | 14 => !decide (a = b)
 | 15 => decide (IntKind.i32.wrap a < IntKind.i32.wrap b)
 | 16 => decide (IntKind.i32.wrap a ≤ IntKind.i32.wrap b)
 | 17 => decide (IntKind.i32.wrap b < IntKind.i32.wrap a)
 | 18 => decide (IntKind.i32.wrap b ≤ IntKind.i32.wrap a)
 | 19 => decide (a < b)
 | 20 => decide (a ≤ b)
 | 21 => decide (b < a)
 | 22 => decide (b ≤ a)
 | _ => floatH op (standF a b)
def isCmp (op : Nat) : Bool := decide (13 ≤ op ∧ op ≤ 28)
theorem Holds (lent) (op a b : Nat) : pureV E (om E) 132 lent [.int .u8 op, .int .u32 a, .int .u32 b] = some (.tuple [.bool (holdsF op a b), ii (if isCmp op then 0 else 61)]) := by
 have hc : op = 13 ∨ op = 14 ∨ op = 15 ∨ op = 16 ∨ op = 17 ∨ op = 18 ∨ op = 19 ∨ op = 20 ∨ op = 21 ∨ op = 22 ∨ (op < 13 ∨ 22 < op) := by omega
 apply pu_132
 rcases hc with rfl | rfl | rfl | rfl | rfl | rfl | rfl | rfl | rfl | rfl | hc
 case inr.inr.inr.inr.inr.inr.inr.inr.inr.inr =>
  have hi : holdsF op a b = floatH op (standF a b) := by unfold holdsF; split <;> first | rfl | (exfalso; omega)
  have hb : isCmp op = isFl op := by unfold isCmp isFl; exact decide_eq_decide.2 (by omega)
  simp (disch := omega) [if_pos, if_neg, iteK_pos, iteK_neg, Tryz.f132, hb, hi, FloatC]
 all_goals simp (disch := omega) [if_pos, if_neg, iteK_pos, iteK_neg, Tryz.f132, isCmp, holdsF, Int.natCast_inj]
end Go.Proofs.YtfplmcpkagpaiaaGreatDoor.Fl
end
