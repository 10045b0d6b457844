/-
 Package isa: the table, Check.
 Plain facts: numbers as bytes.
-/
import Derived.Test.YthiciofacaeddaaGreatNb
import Derived.Test.YthiciofacaeddaaGreatMd
section
namespace Go.Proofs.YthiciofacaeddaaGreat.Fl
open Go Go.Sim
set_option maxRecDepth 100000
set_option linter.unusedSimpArgs false
set_option linter.unusedVariables false

theorem pure_eval {E : Env} {n : Nat} {f : FuncId} {lent : Bool} {args : List V} {r : V} (h : pureV E (ev E n) f lent args = some r) : pureV E (om E) f lent args = some r :=
 (pureV_fs E f lent args).mono (fun c s r hr => (om_iff E).mpr ⟨n, hr⟩) h
theorem of_map {α β : Type} {f g : α → β} {l : List α} (h : l.map f = l.map g) {x : α} (hx : x ∈ l) : f x = g x := List.map_inj_left.mp h x hx

structure Row where
 word : List UInt8
 width : Nat
 most : Nat
 takes : Nat
 gives : Nat
 kind : Nat
abbrev rowV (r : Row) : V := .agg [.str r.word, .int .i64 r.width, .int .u32 r.most, .int .i64 r.takes, .int .i64 r.gives, .int .u8 r.kind]
def rowFrom : Option V → Row
 | some (.tuple [.agg [.str w, .int _ a, .int _ b, .int _ c, .int _ d, .int _ e], _]) => ⟨w, a.toNat, b.toNat, c.toNat, d.toNat, e.toNat⟩
 | _ => ⟨[], 0, 0, 0, 0, 0⟩
def isOp (op : Nat) : Bool := decide (1 ≤ op ∧ op ≤ 59)
@[irreducible] noncomputable def rowOf (op : Nat) : Row := if isOp op then rowFrom (pureV E (ev E 60) 154 false [.int .u8 op]) else ⟨[], 0, 0, 0, 0, 0⟩
theorem Info_f : (List.range 60).map (fun (op : Nat) => pureV E (ev E 60) 154 false [.int .u8 op]) = (List.range 60).map (fun (op : Nat) => some (.tuple [rowV (rowOf op), bb (isOp op)])) := by kernel_rfl
theorem Info_t : (List.range 60).map (fun (op : Nat) => pureV E (ev E 60) 154 true [.int .u8 op]) = (List.range 60).map (fun (op : Nat) => some (.tuple [rowV (rowOf op), bb (isOp op)])) := by kernel_rfl
theorem rowOf_none {op : Nat} (hb : isOp op = false) : rowOf op = ⟨[], 0, 0, 0, 0, 0⟩ := by unfold rowOf; rw [hb]; rfl
theorem Info (lent) (op : Nat) : pureV E (om E) 154 lent [.int .u8 op] = some (.tuple [rowV (rowOf op), bb (isOp op)]) := by
 by_cases h60 : op < 60
 ·have h : op ∈ List.range 60 := List.mem_range.mpr h60
  cases lent
  ·exact pure_eval (of_map Info_f h)
  ·exact pure_eval (of_map Info_t h)
 ·have hb : isOp op = false := by simp [isOp]; omega
  rw [hb, rowOf_none hb]
  apply pu_154
  simp (disch := omega) [if_pos, if_neg, iteK_pos, iteK_neg, Tryz.f154]
def rowTable : List (Nat × Nat × Nat × Nat × Nat) := [(0, 0, 0, 0, 0), (0, 0, 0, 0, 1), (0, 0, 0, 0, 8), (2, 65535, 0, 0, 6), (2, 65535, 1, 0, 7), (0, 0, 1, 1, 5), (2, 16383, 0, 0, 3), (0, 0, 1, 0, 4), (4, 4294967295, 0, 1, 1), (4, 4294967295, 0, 1, 1), (0, 0, 1, 0, 1), (0, 0, 1, 2, 1), (1, 14, 1, 0, 1), (2, 16383, 2, 0, 2), (2, 16383, 2, 0, 2), (2, 16383, 2, 0, 2), (2, 16383, 2, 0, 2), (2, 16383, 2, 0, 2), (2, 16383, 2, 0, 2), (2, 16383, 2, 0, 2), (2, 16383, 2, 0, 2), (2, 16383, 2, 0, 2), (2, 16383, 2, 0, 2), (2, 16383, 2, 0, 2), (2, 16383, 2, 0, 2), (2, 16383, 2, 0, 2), (2, 16383, 2, 0, 2), (2, 16383, 2, 0, 2), (2, 16383, 2, 0, 2), (0, 0, 1, 1, 1), (0, 0, 1, 1, 1), (0, 0, 1, 1, 1), (0, 0, 2, 0, 1), (0, 0, 2, 0, 1), (0, 0, 2, 0, 1), (2, 256, 2, 0, 1), (0, 0, 1, 1, 1), (0, 0, 1, 1, 1), (0, 0, 1, 1, 1), (0, 0, 2, 1, 1), (0, 0, 2, 1, 1), (0, 0, 2, 1, 1), (0, 0, 2, 1, 1), (0, 0, 2, 1, 1), (0, 0, 2, 1, 1), (0, 0, 2, 1, 1), (0, 0, 2, 1, 1), (0, 0, 2, 1, 1), (0, 0, 2, 1, 1), (0, 0, 1, 1, 1), (0, 0, 2, 1, 1), (0, 0, 2, 1, 1), (0, 0, 2, 1, 1), (0, 0, 1, 1, 1), (0, 0, 2, 1, 1), (0, 0, 2, 1, 1), (0, 0, 2, 1, 1), (0, 0, 2, 1, 1), (0, 0, 1, 1, 1), (0, 0, 1, 1, 1)]
theorem rows_eq : (List.range 60).map (fun op => ((rowOf op).width, (rowOf op).most, (rowOf op).takes, (rowOf op).gives, (rowOf op).kind)) = rowTable := by kernel_rfl
def rowG (op : Nat) : Nat × Nat × Nat × Nat × Nat := rowTable.getD op (0, 0, 0, 0, 0)
theorem rowOf_eq (op : Nat) : ((rowOf op).width, (rowOf op).most, (rowOf op).takes, (rowOf op).gives, (rowOf op).kind) = rowG op := by
 unfold rowG
 rw [← rows_eq, List.getD_eq_getElem?_getD, List.getElem?_map]
 by_cases h : op < 60
 ·rw [List.getElem?_range h]; rfl
 ·rw [List.getElem?_eq_none (by simp; omega), rowOf_none (by simp [isOp]; omega)]; rfl
def mostF (op : Nat) : Nat := (rowG op).2.1
def takesF (op : Nat) : Nat := (rowG op).2.2.1
def givesF (op : Nat) : Nat := (rowG op).2.2.2.1
def kindF (op : Nat) : Nat := (rowG op).2.2.2.2
theorem most_eq (op : Nat) : (rowOf op).most = mostF op := by unfold mostF; rw [← rowOf_eq]
theorem takes_eq (op : Nat) : (rowOf op).takes = takesF op := by unfold takesF; rw [← rowOf_eq]
theorem gives_eq (op : Nat) : (rowOf op).gives = givesF op := by unfold givesF; rw [← rowOf_eq]
theorem kind_eq (op : Nat) : (rowOf op).kind = kindF op := by unfold kindF; rw [← rowOf_eq]

structure Instr where
 op : Nat
 arg : Nat
 deriving DecidableEq, Inhabited
abbrev insV (i : Instr) : V := .agg [.int .u8 i.op, .int .u32 i.arg]
def eInstr : Enc Instr where
 enc i := [.int .u8 i.op, .int .u32 i.arg]
 k := 2
 pos := by omega
 len := fun _ => rfl
 canon := fun _ => by simp
 flat := fun _ => by simp
 ok := fun _ => by simp
@[simp] theorem eInstr_k : eInstr.k = 2 := rfl
@[simp] theorem eInstr_enc (s) : eInstr.enc s = [.int .u8 s.op, .int .u32 s.arg] := rfl
@[simp] theorem plain_eInstr (l : List Instr) : V.plainL (cat eInstr l) = true := cat_plain eInstr (fun _ => by simp) l
@[simp] theorem take_eInstr (l : List Instr) (n : Nat) : (cat eInstr l).take (n * 2) = cat eInstr (l.take n) := cat_take eInstr l n
@[simp] theorem cut_eInstr (l : List Instr) : cutCells (cat eInstr l) 0 l.length 2 = cat eInstr l := cut_all eInstr rfl rfl
@[simp] theorem fold_eInstr (l : List Instr) : V.scon (cat eInstr l) 0 l.length false = lst eInstr l := rfl

def insBad (i : Instr) : Nat := if isOp i.op then (if mostF i.op < i.arg then 71 else 0) else 70
theorem IsaCheck (lent) (i : Instr) : pureV E (om E) 103 lent [insV i] = some (ii (insBad i)) := by
 apply pu_103
 by_cases h1 : isOp i.op = true <;> by_cases h2 : mostF i.op < i.arg <;> simp (disch := omega) [if_pos, if_neg, iteK_pos, iteK_neg, Tryz.f103, Info, h1, h2, insBad, most_eq]
end Go.Proofs.YthiciofacaeddaaGreat.Fl
end
section
namespace Go.Proofs.YthiciofacaeddaaGreat
open Go Go.Sim

def word4 (a b c d : UInt8) : UInt32 := UInt32.ofNat (a.toNat + 256 * b.toNat + 65536 * c.toNat + 16777216 * d.toNat)
theorem word4_toNat (a b c d : UInt8) : (word4 a b c d).toNat = a.toNat + 256 * b.toNat + 65536 * c.toNat + 16777216 * d.toNat := by
 have := a.toNat_lt; have := b.toNat_lt; have := c.toNat_lt; have := d.toNat_lt
 unfold word4
 rw [UInt32.toNat_ofNat']
 omega
theorem word4_int (a b c d : UInt8) : ((word4 a b c d).toNat : Int) = a.toNat + b.toNat * 256 + c.toNat * 65536 + d.toNat * 16777216 := by rw [word4_toNat]; omega
theorem or_add {n : Nat} (k : Nat) {x y m : Int} (hm : m = ((2 ^ k : Nat) : Int)) (h0 : 0 ≤ x) (hx : x < m) (hy : 0 ≤ y) (h : x + y * m < ((2 ^ n : Nat) : Int)) : orI n x (y * m) = x + y * m := by
 obtain ⟨x, rfl⟩ := Int.eq_ofNat_of_zero_le h0
 obtain ⟨y, rfl⟩ := Int.eq_ofNat_of_zero_le hy
 subst hm
 unfold orI
 have hx' : x < 2 ^ k := by exact_mod_cast hx
 have e : (y : Int) * ((2 ^ k : Nat) : Int) = ((2 ^ k * y : Nat) : Int) := by rw [Nat.mul_comm]; push_cast; rfl
 rw [e] at h ⊢
 have h' : x + 2 ^ k * y < 2 ^ n := by exact_mod_cast h
 rw [BitVec.ofInt_natCast, BitVec.ofInt_natCast, BitVec.toNat_or, BitVec.toNat_ofNat, BitVec.toNat_ofNat, Nat.mod_eq_of_lt (by omega), Nat.mod_eq_of_lt (by omega), Nat.or_comm, ← Nat.two_pow_add_eq_or_of_lt hx', Nat.add_comm]
 rfl
theorem or64_8 {x y : Int} (h : 0 ≤ x ∧ x < 256 ∧ 0 ≤ y ∧ y < 72057594037927936) : orI 64 x (y * 256) = x + y * 256 := or_add 8 rfl h.1 h.2.1 h.2.2.1 (by omega)
theorem or64_16 {x y : Int} (h : 0 ≤ x ∧ x < 65536 ∧ 0 ≤ y ∧ y < 281474976710656) : orI 64 x (y * 65536) = x + y * 65536 := or_add 16 rfl h.1 h.2.1 h.2.2.1 (by omega)
theorem or64_24 {x y : Int} (h : 0 ≤ x ∧ x < 16777216 ∧ 0 ≤ y ∧ y < 1099511627776) : orI 64 x (y * 16777216) = x + y * 16777216 := or_add 24 rfl h.1 h.2.1 h.2.2.1 (by omega)
theorem or64_0 {x : Int} (h : 0 ≤ x ∧ x < 18446744073709551616) : orI 64 0 x = x := by
 obtain ⟨x, rfl⟩ := Int.eq_ofNat_of_zero_le h.1
 unfold orI
 rw [BitVec.ofInt_natCast, show BitVec.ofInt 64 0 = 0#64 from rfl, BitVec.zero_or, BitVec.toNat_ofNat, Nat.mod_eq_of_lt (by omega)]

def wordAt (l : List UInt8) (at_ : Nat) : UInt32 := match l.drop at_ with | a :: b :: c :: d :: _ => word4 a b c d | _ => 0
theorem drop4 {l : List UInt8} {n : Nat} (h : n + 4 ≤ l.length) : ∃ a b c d r, l.drop n = a :: b :: c :: d :: r := by
 have hl : 4 ≤ (l.drop n).length := by simp; omega
 match hd : l.drop n, hl with
 | a :: b :: c :: d :: r, _ => exact ⟨a, b, c, d, r, rfl⟩
def bytes4 (x : UInt32) : List UInt8 := [UInt8.ofNat (x.toNat % 256), UInt8.ofNat (x.toNat / 256 % 256), UInt8.ofNat (x.toNat / 65536 % 256), UInt8.ofNat (x.toNat / 16777216 % 256)]
@[simp] theorem bytes4_length (x : UInt32) : (bytes4 x).length = 4 := rfl
@[simp] theorem take_bytes4 (x : UInt32) : (bytes4 x).take 4 = bytes4 x := rfl
def words : List UInt32 → List UInt8
 | [] => []
 | x :: r => bytes4 x ++ words r
theorem words_append : ∀ a b : List UInt32, words (a ++ b) = words a ++ words b
 | [], b => rfl
 | x :: r, b => by simp [words, words_append r b]
theorem words_length : ∀ l : List UInt32, (words l).length = 4 * l.length
 | [] => rfl
 | x :: r => by simp [words, words_length r]; omega
theorem take_snoc {α : Type} {l : List α} {i : Nat} (h : i < l.length) : l.take (i + 1) = l.take i ++ [l[i]] := by simp

def sumStep (s : Int × Int) (x : UInt8) : Int × Int := ((s.1 + x.toNat) % 65521, (s.2 + (s.1 + x.toNat) % 65521) % 65521)
def sums (l : List UInt8) (s : Int × Int) : Int × Int := l.foldl sumStep s
theorem sums_append (a b : List UInt8) (s : Int × Int) : sums (a ++ b) s = sums b (sums a s) := by simp [sums]
theorem sums_fits (l : List UInt8) (s : Int × Int) (h : 0 ≤ s.1 ∧ s.1 < 65521 ∧ 0 ≤ s.2 ∧ s.2 < 65521) : 0 ≤ (sums l s).1 ∧ (sums l s).1 < 65521 ∧ 0 ≤ (sums l s).2 ∧ (sums l s).2 < 65521 := by
 induction l generalizing s with
 | nil => exact h
 | cons x l ih => exact ih _ (by simp only [sumStep]; omega)
def adler (l : List UInt8) : UInt32 := UInt32.ofNat ((sums l (1, 0)).2 * 65536 + (sums l (1, 0)).1).toNat
theorem adler_toNat (l : List UInt8) : ((adler l).toNat : Int) = (sums l (1, 0)).2 * 65536 + (sums l (1, 0)).1 := by
 have := sums_fits l (1, 0) (by simp)
 unfold adler
 rw [UInt32.toNat_ofNat']
 omega
def with4 (l : List UInt8) (n : Nat) (x : UInt32) : List UInt8 := l.take n ++ bytes4 x ++ l.drop (n + 4)
theorem with4_length {l : List UInt8} {n : Nat} (x : UInt32) (h : n + 4 ≤ l.length) : (with4 l n x).length = l.length := by simp [with4]; omega
end Go.Proofs.YthiciofacaeddaaGreat
end
