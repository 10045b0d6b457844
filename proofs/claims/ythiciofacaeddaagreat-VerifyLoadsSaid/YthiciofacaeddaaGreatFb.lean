/-
 Packages little and isa as procs needs them: Put, Size, Encode.
 Package procs: inside, fault.
-/
import Derived.Test.YthiciofacaeddaaGreatFa
section
namespace Go.Proofs.YthiciofacaeddaaGreat.Fl
open Go Go.Sim
set_option maxRecDepth 100000
set_option linter.unusedSimpArgs false
set_option linter.unusedVariables false

theorem width32 (lent) : pureV E (om E) 145 lent [] = some (ii 4) := by
 apply pu_145
 simp (disch := omega) [Tryz.f145]
 repeat
  apply loop_next (dyn := []) hint_145_0 (by kernel_rfl)
  simp (disch := omega)
  rw [lpB_eq]
  simp (disch := omega)
attribute [local simp] width32
theorem lay32 (t : List UInt8) (x : UInt32) (B : List Blk) (r : Heap) (j ep : Nat) (hj : B[j]? = some (.row (cat eU8 t) ep 1 true true)) (ht : t.length < 2 ^ 44) :
  callV E (om E) 162 [.sref 0 j 0 t.length ep (1, false), w32 x.toNat] (B :: r) =
   some (.sref 0 j 0 (t.length + 4) (ep + 4) (1, false), B.set j (.row (cat eU8 (t ++ bytes4 x)) (ep + 4) 1 true true) :: r) := by
 rw [call_162]
 obtain ⟨hjl, hj'⟩ := List.getElem?_eq_some_iff.1 hj
 have hx := x.toNat_lt
 have key : ∃ T, bodyV E (om E) 162 (V.upL 1 [V.sref 0 j 0 t.length ep (1, false), w32 x.toNat]) ([] :: B :: r) = some (.sref 1 j 0 (t.length + 4) (ep + 4) (1, false), T :: B.set j (.row (cat eU8 (t ++ bytes4 x)) (ep + 4) 1 true true) :: r) := by
  refine ⟨[], ?_⟩
  ·apply bo_162
   simp (disch := omega) [if_pos, if_neg, iteK_pos, iteK_neg, Tryz.f162]
   iterate 5
    apply loop_next (dyn := []) hint_162_0 (by kernel_rfl)
    simp (disch := omega) [if_pos, if_neg, iteK_pos, iteK_neg]
    rw [lpB_eq]
    simp (disch := omega) [if_pos, if_neg, iteK_pos, iteK_neg, hj', Int.fdiv_eq_ediv_of_nonneg]
   have h3 : (x.toNat : Int) / 16777216 % 256 = (x.toNat : Int) / 16777216 := by omega
   simp [List.take_of_length_le, cat_append, bytes4, cat_cons, IntKind.wrap_u8, h3]
 obtain ⟨T, hT⟩ := key
 rw [hT]
 simp
theorem Put32 (lent) (l : List UInt32) (hl : l.length < 2 ^ 40) : pureV E (om E) 117 lent [ws l] = some (bs (words l)) := by
 apply pu_117
 simp (disch := omega) [if_pos, if_neg, iteK_pos, iteK_neg, Tryz.f117]
 refine loop_use (dyn := []) (fun (a : Nat × List UInt8 × Nat) => [ws l, xx, .nilslice, .sref 0 0 0 a.2.1.length a.2.2 (1, false), xx, xx, ws l, ii l.length, ii a.1] ++ pois 8)
  (fun a => [[.row (cat eU8 a.2.1) a.2.2 1 true true]]) (fun a => a.1 ≤ l.length ∧ a.2.1 = words (l.take a.1)) (fun a => l.length - a.1) hint_117_0 (by kernel_rfl) ?_ (0, [], 0) ⟨by simp, rfl⟩ (by simp)
 rintro ⟨i, acc, e⟩ ⟨hi, hacc⟩ IH
 rw [lpB_eq]
 dsimp only at hi hacc ⊢
 by_cases hlt : i < l.length
 ·have h1 := words_length (l.take i)
  rw [← hacc] at h1
  have h2 := List.length_take_le i l
  have hlay := lay32 acc l[i] [.row (cat eU8 acc) e 1 true true] [] 0 e rfl (by omega)
  simp (disch := omega) [if_pos, if_neg, iteK_pos, iteK_neg, hlt, hlay]
  refine IH (i + 1, acc ++ bytes4 l[i], e + 4) _ _ ⟨by dsimp only; omega, ?_⟩ (by dsimp only; omega) (by simp)
  dsimp only
  rw [take_snoc hlt, words_append, hacc]; simp [words]
 ·obtain rfl : i = l.length := by omega
  rw [List.take_length] at hacc; subst hacc
  simp (disch := omega) [if_pos, if_neg, iteK_pos, iteK_neg]

def insFits (i : Instr) : Prop := i.op < 256 ∧ i.arg < 4294967296
theorem rowOf_w : (List.range 60).all (fun op => decide ((rowOf op).width ≤ 4)) = true := by kernel_rfl
theorem width_le (op : Nat) : (rowOf op).width ≤ 4 := by
 by_cases h60 : op < 60
 ·simpa using List.all_eq_true.mp rowOf_w op (List.mem_range.mpr h60)
 ·rw [rowOf_none (by simp [isOp]; omega)]; simp
theorem IsaSize (lent) (i : Instr) : pureV E (om E) 155 lent [insV i] = some (ii (if insBad i = 0 then 1 + (rowOf i.op).width else 0)) := by
 apply pu_155
 have hw := width_le i.op
 by_cases h : insBad i = 0 <;> simp (disch := omega) [if_pos, if_neg, iteK_pos, iteK_neg, Tryz.f155, Info, IsaCheck, h]

noncomputable def encOne (i : Instr) : List UInt8 := UInt8.ofNat i.op :: (bytes4 (UInt32.ofNat i.arg)).take (rowOf i.op).width
noncomputable def encI (l : List Instr) : List UInt8 := l.flatMap encOne
theorem encOne_len (i : Instr) : (encOne i).length = 1 + (rowOf i.op).width := by
 have := width_le i.op
 simp [encOne]; omega
theorem encI_len (l : List Instr) : (encI l).length ≤ 5 * l.length := by
 induction l with
 | nil => simp [encI]
 | cons x l ih =>
  have := encOne_len x
  have := width_le x.op
  simp only [encI, List.flatMap_cons, List.length_append, List.length_cons] at ih ⊢
  omega
theorem putArg (lent) {x : Nat} (hx : x < 4294967296) : pureV E (om E) 117 lent [.scon [.int .u32 x] 0 1 false] = some (bs (bytes4 (UInt32.ofNat x))) := by
 have h := Put32 lent [UInt32.ofNat x] (by simp)
 have hn : (UInt32.ofNat x).toNat = x := UInt32.toNat_ofNat_of_lt' hx
 rw [show words [UInt32.ofNat x] = bytes4 (UInt32.ofNat x) by simp [words]] at h
 have e : ws [UInt32.ofNat x] = .scon [.int .u32 (UInt32.ofNat x).toNat] 0 1 false := rfl
 rw [e, hn] at h
 exact h
theorem putArg2 (lent) {x : Nat} (hx : x < 4294967296) : pureV E (om E) 117 lent [.scon (V.canonL (cutCells [.int .u32 x] 0 1 1)) 0 1 false] = some (bs (bytes4 (UInt32.ofNat x))) := putArg lent hx
theorem toNat_op {i : Instr} (h : insFits i) : (UInt8.ofNat i.op).toNat = i.op := UInt8.toNat_ofNat_of_lt' h.1
noncomputable abbrev encSlots (code : List Instr) (i e : Nat) : List V := [lst eInstr code, xx, xx, xx, xx, .sref 0 0 0 (encI (code.take i)).length e (1, false), xx, xx, xx, lst eInstr code, ii code.length, bb (decide ((16384 : Int) < code.length)), lst eInstr code, ii code.length, ii i] ++ pois 27
theorem Encode_ok (lent) (code : List Instr) (h : code.length ≤ 16384) (hf : ∀ i ∈ code, insFits i) (hb : ∀ i ∈ code, insBad i = 0) : pureV E (om E) 109 lent [lst eInstr code] = some (.tuple [bs (encI code), ii 0, ii 0]) := by
 apply pu_109
 simp (disch := omega) [if_pos, if_neg, iteK_pos, iteK_neg, Tryz.f109]
 refine loop_use (dyn := [11]) (fun (a : Nat × Nat) => encSlots code a.1 a.2)
  (fun a => [[.row (cat eU8 (encI (code.take a.1))) a.2 1 true true]]) (fun a => a.1 ≤ code.length) (fun a => code.length - a.1) hint_109_0 (by kernel_rfl) ?_ (0, 0) (by simp) (by simp [encI])
 rintro ⟨i, e⟩ hi IH
 rw [lpB_eq]
 dsimp only at hi ⊢
 have hl := encI_len (code.take i)
 have hle : (code.take i).length = i := by simp; omega
 by_cases hlt : i < code.length
 ·have hbi : insBad code[i] = 0 := hb _ (List.getElem_mem hlt)
  have hfi := hf _ (List.getElem_mem hlt)
  have hput2 : ∀ lent, _ := fun lent => putArg2 lent hfi.2
  have hput : ∀ lent, _ := fun lent => putArg lent hfi.2
  have hw := width_le code[i].op
  simp (disch := omega) [if_pos, if_neg, iteK_pos, iteK_neg, hlt, IsaCheck, IsaSize, hbi, hput2, hput]
  rw [iteK_pos (by kernel_rfl)]
  simp (disch := omega) [if_pos, if_neg, iteK_pos, iteK_neg, hlt, IsaCheck, IsaSize, hbi, hput2, hput]
  have e1 : (1 + ((rowOf code[i].op).width : Int)).toNat - 1 = (rowOf code[i].op).width := by omega
  have hnew : encI (code.take (i + 1)) = encI (code.take i) ++ (UInt8.ofNat code[i].op :: (bytes4 (UInt32.ofNat code[i].arg)).take (rowOf code[i].op).width) := by
   rw [take_snoc hlt]; unfold encI; rw [List.flatMap_append, List.flatMap_singleton]; rfl
  have hlen : (encI (code.take (i + 1))).length = (encI (code.take i)).length + 1 + (rowOf code[i].op).width := by
   rw [hnew]; simp; omega
  have hrow : cat eU8 (encI (code.take i)) ++ [V.int .u8 (code[i].op : Int)] ++ cat eU8 ((bytes4 (UInt32.ofNat code[i].arg)).take (rowOf code[i].op).width) = cat eU8 (encI (code.take (i + 1))) := by
   rw [hnew, cat_append, List.append_assoc, cat_cons]
   rw [show eU8.enc (UInt8.ofNat code[i].op) = [V.int .u8 (code[i].op : Int)] by simp [toNat_op hfi]]
  rw [e1, List.take_of_length_le (l := cat eU8 (encI (code.take i)) ++ _) (by simp), List.take_take, Nat.min_self, hrow]
  exact IH (i + 1, e + 2) _ _ (by simp only; omega) (by simp only; omega) (by simp [hlen])
 ·simp (disch := omega) [if_pos, if_neg, iteK_pos, iteK_neg, hlt]
  rw [List.take_of_length_le (by omega)]
def encodes (code : List Instr) : Prop := code.length ≤ 16384 ∧ ∀ i ∈ code, insBad i = 0
end Go.Proofs.YthiciofacaeddaaGreat.Fl
end
section
namespace Go.Proofs.YthiciofacaeddaaGreat.Fl
open Go Go.Sim
set_option maxRecDepth 100000
set_option maxHeartbeats 0
set_option linter.unusedSimpArgs false
set_option linter.unusedVariables false

structure PR where
 b : Nat
 e : Nat
 f : Nat
 deriving DecidableEq, Inhabited
abbrev prV (p : PR) : V := .agg [.int .u32 p.b, .int .u32 p.e, .int .u32 p.f, ii 0]
def ePR : Enc PR where
 enc p := [.int .u32 p.b, .int .u32 p.e, .int .u32 p.f, ii 0]
 k := 4
 pos := by omega
 len := fun _ => rfl
 canon := fun _ => by simp
 flat := fun _ => by simp
 ok := fun _ => by simp
@[simp] theorem ePR_k : ePR.k = 4 := rfl
@[simp] theorem ePR_enc (s) : ePR.enc s = [.int .u32 s.b, .int .u32 s.e, .int .u32 s.f, ii 0] := rfl
@[simp] theorem take_ePR (l : List PR) (n : Nat) : (cat ePR l).take (n * 4) = cat ePR (l.take n) := cat_take ePR l n
@[simp] theorem cut_ePR (l : List PR) : cutCells (cat ePR l) 0 l.length 4 = cat ePR l := cut_all ePR rfl rfl
@[simp] theorem fold_ePR (l : List PR) : V.scon (cat ePR l) 0 l.length false = lst ePR l := rfl
def eN : Enc Nat where
 enc n := [ii n]
 k := 1
 pos := by omega
 len := fun _ => rfl
 canon := fun _ => by simp
 flat := fun _ => by simp
 ok := fun _ => by simp
@[simp] theorem eN_k : eN.k = 1 := rfl
@[simp] theorem eN_enc (n) : eN.enc n = [ii n] := rfl
@[simp] theorem cut_eN (l : List Nat) : cutCells (cat eN l) 0 l.length 1 = cat eN l := cut_all eN rfl rfl
@[simp] theorem fold_eN (l : List Nat) : V.scon (cat eN l) 0 l.length false = lst eN l := rfl

def insideF (p : PR) (x : Nat) : Bool := decide (p.b < x ∧ x < p.e)
theorem PInside (lent) (p : PR) (x : Nat) : pureV E (om E) 156 lent [prV p, .int .u32 x] = some (bb (insideF p x)) := by
 apply pu_156
 by_cases h1 : p.b < x <;> simp (disch := omega) [if_pos, if_neg, iteK_pos, iteK_neg, Tryz.f156, h1, insideF]

def endsF (k : Nat) : Bool := decide (k = 3 ∨ k = 4 ∨ k = 8)
def faultF (p : PR) (i : Nat) (x : Instr) : Nat :=
 if kindF x.op = 6 ∧ (x.arg % 4 ≠ 0 ∨ x.arg = 0 ∨ 4096 < x.arg) then 131
 else if kindF x.op = 7 then (if x.arg = p.f then 0 else 131)
 else if (kindF x.op = 3 ∨ kindF x.op = 2) ∧ insideF p x.arg = false then 132
 else if i + 1 = p.e ∧ endsF (kindF x.op) = false then 133
 else 0
theorem PFault (lent) (p : PR) (i : Nat) (x : Instr) (hi : i < 4294967295) : pureV E (om E) 111 lent [prV p, .int .u32 i, insV x] = some (ii (faultF p i x)) := by
 apply pu_111
 generalize hk : kindF x.op = k
 have e1 : ((i : Int) + 1) % 4294967296 = i + 1 := by omega
 by_cases h6 : k = 6
 ·subst h6
  by_cases h1 : x.arg % 4 = 0 <;> by_cases h2 : x.arg = 0 <;> by_cases h3 : 4096 < x.arg <;> by_cases h4 : i + 1 = p.e <;>
   simp (disch := omega) [if_pos, if_neg, iteK_pos, iteK_neg, Tryz.f111, Info, kind_eq, hk, faultF, h1, h2, h3, h4, endsF, e1]
  all_goals first | omega | skip
 ·by_cases h7 : k = 7
  ·subst h7
   by_cases h1 : x.arg = p.f <;> simp (disch := omega) [if_pos, if_neg, iteK_pos, iteK_neg, Tryz.f111, Info, kind_eq, hk, faultF, h1, endsF]
  ·by_cases h3 : k = 3
   ·subst h3
    by_cases h1 : insideF p x.arg = true <;> by_cases h4 : i + 1 = p.e <;> simp (disch := omega) [if_pos, if_neg, iteK_pos, iteK_neg, Tryz.f111, Info, kind_eq, hk, faultF, h1, h4, endsF, PInside, e1]
   ·by_cases h2 : k = 2
    ·subst h2
     by_cases h1 : insideF p x.arg = true <;> by_cases h4 : i + 1 = p.e <;> simp (disch := omega) [if_pos, if_neg, iteK_pos, iteK_neg, Tryz.f111, Info, kind_eq, hk, faultF, h1, h4, endsF, PInside, e1]
    ·by_cases h4 : k = 4
     ·have h8 : ¬ k = 8 := by omega
      by_cases h5 : i + 1 = p.e <;> simp (disch := omega) [if_pos, if_neg, iteK_pos, iteK_neg, Tryz.f111, Info, kind_eq, hk, faultF, h2, h3, h4, h5, h6, h7, h8, endsF, e1]
     by_cases h8 : k = 8 <;> by_cases h5 : i + 1 = p.e <;> simp (disch := omega) [if_pos, if_neg, iteK_pos, iteK_neg, Tryz.f111, Info, kind_eq, hk, faultF, h2, h3, h4, h5, h6, h7, h8, endsF, e1]
end Go.Proofs.YthiciofacaeddaaGreat.Fl
end
