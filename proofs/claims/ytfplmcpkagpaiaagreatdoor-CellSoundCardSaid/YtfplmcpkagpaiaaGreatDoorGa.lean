/-
 Packages little and isa as procs needs them: Put, Size, Encode.
-/
import Derived.Test.YtfplmcpkagpaiaaGreatDoorFa
set_option maxRecDepth 100000
set_option maxHeartbeats 0
set_option linter.unusedSimpArgs false
set_option linter.unusedVariables false
section
namespace Go.Proofs.YtfplmcpkagpaiaaGreatDoor.Fl
open Go Go.Sim
theorem width32 (lent) : pureV E (om E) 110 lent [] = some (ii 4) := by
 apply pu_110
 simp (disch := omega) [Tryz.f110]
 repeat
  apply loop_next (dyn := []) hint_110_0 (by kernel_rfl)
  simp (disch := omega)
  rw [lpB_eq]
  simp (disch := omega)
attribute [local simp] width32
theorem lay32 (t : List UInt8) (x : UInt32) (B : List Blk) (r : Heap) (j ep : Nat) (hj : B[j]? = some (.row (cat eU8 t) ep 1 true true)) (ht : t.length < 2 ^ 44) :
  callV E (om E) 83 [.sref 0 j 0 t.length ep (1, false), w32 x.toNat] (B :: r) =
   some (.sref 0 j 0 (t.length + 4) (ep + 4) (1, false), B.set j (.row (cat eU8 (t ++ bytes4 x)) (ep + 4) 1 true true) :: r) := by
 rw [call_83]
 obtain ⟨hjl, hj'⟩ := List.getElem?_eq_some_iff.1 hj
 have hx := x.toNat_lt
 have key : ∃ T, bodyV E (om E) 83 (V.upL 1 [V.sref 0 j 0 t.length ep (1, false), w32 x.toNat]) ([] :: B :: r) = some (.sref 1 j 0 (t.length + 4) (ep + 4) (1, false), T :: B.set j (.row (cat eU8 (t ++ bytes4 x)) (ep + 4) 1 true true) :: r) := by
  refine ⟨[], ?_⟩
  ·apply bo_83
   simp (disch := omega) [if_pos, if_neg, iteK_pos, iteK_neg, Tryz.f83]
   iterate 5
    apply loop_next (dyn := []) hint_83_0 (by kernel_rfl)
    simp (disch := omega) [if_pos, if_neg, iteK_pos, iteK_neg]
    rw [lpB_eq]
    simp (disch := omega) [if_pos, if_neg, iteK_pos, iteK_neg, hj', Int.fdiv_eq_ediv_of_nonneg]
   have h3 : (x.toNat : Int) / 16777216 % 256 = (x.toNat : Int) / 16777216 := by omega
   simp [List.take_of_length_le, cat_append, bytes4, cat_cons, IntKind.wrap_u8, h3]
 obtain ⟨T, hT⟩ := key
 rw [hT]
 simp
theorem Put32 (lent) (l : List UInt32) (hl : l.length < 2 ^ 40) : pureV E (om E) 54 lent [ws l] = some (bs (words l)) := by
 apply pu_54
 simp (disch := omega) [if_pos, if_neg, iteK_pos, iteK_neg, Tryz.f54]
 refine loop_use (dyn := []) (fun (a : Nat × List UInt8 × Nat) => [ws l, xx, .nilslice, .sref 0 0 0 a.2.1.length a.2.2 (1, false), xx, xx, ws l, ii l.length, ii a.1] ++ pois 8)
  (fun a => [[.row (cat eU8 a.2.1) a.2.2 1 true true]]) (fun a => a.1 ≤ l.length ∧ a.2.1 = words (l.take a.1)) (fun a => l.length - a.1) hint_54_0 (by kernel_rfl) ?_ (0, [], 0) ⟨by simp, rfl⟩ (by simp)
 rintro ⟨i, acc, e⟩ ⟨hi, hacc⟩ IH
 rw [lpB_eq]
 dsimp only at hi hacc ⊢
 by_cases hlt : i < l.length
 ·have h1 := words_length (l.take i)
  rw [← hacc] at h1
  have h2 := List.length_take_le i l
  have hlay := lay32 acc l[i] [.row (cat eU8 acc) e 1 true true] [] 0 e rfl (by omega)
  simp (disch := omega) [if_pos, if_neg, iteK_pos, iteK_neg, hlt, hlay]
  refine IH (i + 1, acc ++ bytes4 l[i], e + 4) _ _ ⟨by dsimp only; omega, ?_⟩ (by dsimp only; omega) (by simp)
  dsimp only
  rw [take_snoc hlt, words_append, hacc]; simp [words]
 ·obtain rfl : i = l.length := by omega
  rw [List.take_length] at hacc; subst hacc
  simp (disch := omega) [if_pos, if_neg, iteK_pos, iteK_neg]
def insFits (i : Instr) : Prop := i.op < 256 ∧ i.arg < 4294967296
theorem rowOf_w : (List.range 60).all (fun op => decide ((rowOf op).width ≤ 4)) = true := by kernel_rfl
theorem width_le (op : Nat) : (rowOf op).width ≤ 4 := by
 by_cases h60 : op < 60
 ·simpa using List.all_eq_true.mp rowOf_w op (List.mem_range.mpr h60)
 ·rw [rowOf_none (by simp [isOp]; omega)]; simp
theorem IsaSize (lent) (i : Instr) : pureV E (om E) 75 lent [insV i] = some (ii (if insBad i = 0 then 1 + (rowOf i.op).width else 0)) := by
 apply pu_75
 have hw := width_le i.op
 by_cases h : insBad i = 0 <;> simp (disch := omega) [if_pos, if_neg, iteK_pos, iteK_neg, Tryz.f75, Info, IsaCheck, h]
noncomputable def encOne (i : Instr) : List UInt8 := UInt8.ofNat i.op :: (bytes4 (UInt32.ofNat i.arg)).take (rowOf i.op).width
noncomputable def encI (l : List Instr) : List UInt8 := l.flatMap encOne
theorem encOne_len (i : Instr) : (encOne i).length = 1 + (rowOf i.op).width := by
 have := width_le i.op
 simp [encOne]; omega
theorem encI_len (l : List Instr) : (encI l).length ≤ 5 * l.length := by
 induction l with
 | nil => simp [encI]
 | cons x l ih =>
  have := encOne_len x
  have := width_le x.op
  simp only [encI, List.flatMap_cons, List.length_append, List.length_cons] at ih ⊢
  omega
theorem putArg (lent) {x : Nat} (hx : x < 4294967296) : pureV E (om E) 54 lent [.scon [.int .u32 x] 0 1 false] = some (bs (bytes4 (UInt32.ofNat x))) := by
 have h := Put32 lent [UInt32.ofNat x] (by simp)
 have hn : (UInt32.ofNat x).toNat = x := UInt32.toNat_ofNat_of_lt' hx
 rw [show words [UInt32.ofNat x] = bytes4 (UInt32.ofNat x) by simp [words]] at h
 have e : ws [UInt32.ofNat x] = .scon [.int .u32 (UInt32.ofNat x).toNat] 0 1 false := rfl
 rw [e, hn] at h
 exact h
theorem putArg2 (lent) {x : Nat} (hx : x < 4294967296) : pureV E (om E) 54 lent [.scon (V.canonL (cutCells [.int .u32 x] 0 1 1)) 0 1 false] = some (bs (bytes4 (UInt32.ofNat x))) := putArg lent hx
theorem toNat_op {i : Instr} (h : insFits i) : (UInt8.ofNat i.op).toNat = i.op := UInt8.toNat_ofNat_of_lt' h.1
noncomputable abbrev encSlots (code : List Instr) (i e : Nat) : List V := [lst eInstr code, xx, xx, xx, xx, .sref 0 0 0 (encI (code.take i)).length e (1, false), xx, xx, xx, lst eInstr code, ii code.length, bb (decide ((16384 : Int) < code.length)), lst eInstr code, ii code.length, ii i] ++ pois 27
theorem Encode_ok (lent) (code : List Instr) (h : code.length ≤ 16384) (hf : ∀ i ∈ code, insFits i) (hb : ∀ i ∈ code, insBad i = 0) : pureV E (om E) 46 lent [lst eInstr code] = some (.tuple [bs (encI code), ii 0, ii 0]) := by
 apply pu_46
 simp (disch := omega) [if_pos, if_neg, iteK_pos, iteK_neg, Tryz.f46]
 refine loop_use (dyn := [11]) (fun (a : Nat × Nat) => encSlots code a.1 a.2)
  (fun a => [[.row (cat eU8 (encI (code.take a.1))) a.2 1 true true]]) (fun a => a.1 ≤ code.length) (fun a => code.length - a.1) hint_46_0 (by kernel_rfl) ?_ (0, 0) (by simp) (by simp [encI])
 rintro ⟨i, e⟩ hi IH
 rw [lpB_eq]
 dsimp only at hi ⊢
 have hl := encI_len (code.take i)
 have hle : (code.take i).length = i := by simp; omega
 by_cases hlt : i < code.length
 ·have hbi : insBad code[i] = 0 := hb _ (List.getElem_mem hlt)
  have hfi := hf _ (List.getElem_mem hlt)
  have hput2 : ∀ lent, _ := fun lent => putArg2 lent hfi.2
  have hput : ∀ lent, _ := fun lent => putArg lent hfi.2
  have hw := width_le code[i].op
  have e1 : (1 + ((rowOf code[i].op).width : Int)).toNat - 1 = (rowOf code[i].op).width := by omega
  have hnew : encI (code.take (i + 1)) = encI (code.take i) ++ (UInt8.ofNat code[i].op :: (bytes4 (UInt32.ofNat code[i].arg)).take (rowOf code[i].op).width) := by
   rw [take_snoc hlt]; unfold encI; rw [List.flatMap_append, List.flatMap_singleton]; rfl
  have hlen : (encI (code.take (i + 1))).length = (encI (code.take i)).length + 1 + (rowOf code[i].op).width := by
   rw [hnew]; simp; omega
  have hrow : cat eU8 (encI (code.take i)) ++ [V.int .u8 (code[i].op : Int)] ++ cat eU8 ((bytes4 (UInt32.ofNat code[i].arg)).take (rowOf code[i].op).width) = cat eU8 (encI (code.take (i + 1))) := by
   rw [hnew, cat_append, List.append_assoc, cat_cons]
   rw [show eU8.enc (UInt8.ofNat code[i].op) = [V.int .u8 (code[i].op : Int)] by simp [toNat_op hfi]]
  by_cases hw0 : (rowOf code[i].op).width = 0
  ·have e0 : (1 + ((rowOf code[i].op).width : Int)).toNat - 1 = 0 := by omega
   have hrow0 : cat eU8 (encI (code.take i)) ++ [V.int .u8 (code[i].op : Int)] = cat eU8 (encI (code.take (i + 1))) := by rw [← hrow, hw0]; simp
   simp (disch := omega) [if_pos, if_neg, iteK_pos, iteK_neg, hlt, IsaCheck, IsaSize, hbi, hput2, hput, e0]
   rw [iteK_pos (by kernel_rfl)]
   simp (disch := omega) [if_pos, if_neg, iteK_pos, iteK_neg, hlt, IsaCheck, IsaSize, hbi, hput2, hput, e0]
   rw [hrow0]
   exact IH (i + 1, e + 1) _ _ (by simp only; omega) (by simp only; omega) (by simp [hlen, hw0])
  ·have e0 : ¬ (1 + ((rowOf code[i].op).width : Int)).toNat - 1 = 0 := by omega
   simp (disch := omega) [if_pos, if_neg, iteK_pos, iteK_neg, hlt, IsaCheck, IsaSize, hbi, hput2, hput, e0]
   rw [iteK_pos (by kernel_rfl)]
   simp (disch := omega) [if_pos, if_neg, iteK_pos, iteK_neg, hlt, IsaCheck, IsaSize, hbi, hput2, hput, e0]
   rw [e1, List.take_of_length_le (l := cat eU8 (encI (code.take i)) ++ _) (by simp), List.take_take, Nat.min_self, hrow]
   exact IH (i + 1, e + 2) _ _ (by simp only; omega) (by simp only; omega) (by simp [hlen])
 ·simp (disch := omega) [if_pos, if_neg, iteK_pos, iteK_neg, hlt]
  rw [List.take_of_length_le (by omega)]
theorem Encode_bad (lent) (code : List Instr) (k : Nat) (hk : k < code.length) (h : code.length ≤ 16384) (hf : ∀ i ∈ code, insFits i) (hb : ∀ j, (hj : j < k) → insBad (code[j]'(by omega)) = 0) (hkb : insBad code[k] ≠ 0) : pureV E (om E) 46 lent [lst eInstr code] = some (.tuple [.scon [] 0 0 false, ii k, ii (insBad code[k])]) := by
 apply pu_46
 simp (disch := omega) [if_pos, if_neg, iteK_pos, iteK_neg, Tryz.f46]
 refine loop_use (dyn := [11]) (fun (a : Nat × Nat) => encSlots code a.1 a.2)
  (fun a => [[.row (cat eU8 (encI (code.take a.1))) a.2 1 true true]]) (fun a => a.1 ≤ k) (fun a => k - a.1) hint_46_0 (by kernel_rfl) ?_ (0, 0) (by simp) (by simp [encI])
 rintro ⟨i, e⟩ hi IH
 rw [lpB_eq]
 dsimp only at hi ⊢
 have hl := encI_len (code.take i)
 have hle : (code.take i).length = i := by simp; omega
 by_cases hik : i < k
 ·have hlt : i < code.length := by omega
  have hbi : insBad code[i] = 0 := hb _ hik
  have hfi := hf _ (List.getElem_mem hlt)
  have hput2 : ∀ lent, _ := fun lent => putArg2 lent hfi.2
  have hput : ∀ lent, _ := fun lent => putArg lent hfi.2
  have hw := width_le code[i].op
  have e1 : (1 + ((rowOf code[i].op).width : Int)).toNat - 1 = (rowOf code[i].op).width := by omega
  have hnew : encI (code.take (i + 1)) = encI (code.take i) ++ (UInt8.ofNat code[i].op :: (bytes4 (UInt32.ofNat code[i].arg)).take (rowOf code[i].op).width) := by
   rw [take_snoc hlt]; unfold encI; rw [List.flatMap_append, List.flatMap_singleton]; rfl
  have hlen : (encI (code.take (i + 1))).length = (encI (code.take i)).length + 1 + (rowOf code[i].op).width := by
   rw [hnew]; simp; omega
  have hrow : cat eU8 (encI (code.take i)) ++ [V.int .u8 (code[i].op : Int)] ++ cat eU8 ((bytes4 (UInt32.ofNat code[i].arg)).take (rowOf code[i].op).width) = cat eU8 (encI (code.take (i + 1))) := by
   rw [hnew, cat_append, List.append_assoc, cat_cons]
   rw [show eU8.enc (UInt8.ofNat code[i].op) = [V.int .u8 (code[i].op : Int)] by simp [toNat_op hfi]]
  by_cases hw0 : (rowOf code[i].op).width = 0
  ·have e0 : (1 + ((rowOf code[i].op).width : Int)).toNat - 1 = 0 := by omega
   have hrow0 : cat eU8 (encI (code.take i)) ++ [V.int .u8 (code[i].op : Int)] = cat eU8 (encI (code.take (i + 1))) := by rw [← hrow, hw0]; simp
   simp (disch := omega) [if_pos, if_neg, iteK_pos, iteK_neg, hlt, IsaCheck, IsaSize, hbi, hput2, hput, e0]
   rw [iteK_pos (by kernel_rfl)]
   simp (disch := omega) [if_pos, if_neg, iteK_pos, iteK_neg, hlt, IsaCheck, IsaSize, hbi, hput2, hput, e0]
   rw [hrow0]
   exact IH (i + 1, e + 1) _ _ (by simp only; omega) (by simp only; omega) (by simp [hlen, hw0])
  ·have e0 : ¬ (1 + ((rowOf code[i].op).width : Int)).toNat - 1 = 0 := by omega
   simp (disch := omega) [if_pos, if_neg, iteK_pos, iteK_neg, hlt, IsaCheck, IsaSize, hbi, hput2, hput, e0]
   rw [iteK_pos (by kernel_rfl)]
   simp (disch := omega) [if_pos, if_neg, iteK_pos, iteK_neg, hlt, IsaCheck, IsaSize, hbi, hput2, hput, e0]
   rw [e1, List.take_of_length_le (l := cat eU8 (encI (code.take i)) ++ _) (by simp), List.take_take, Nat.min_self, hrow]
   exact IH (i + 1, e + 2) _ _ (by simp only; omega) (by simp only; omega) (by simp [hlen])
 ·obtain rfl : i = k := by omega
  simp (disch := omega) [if_pos, if_neg, iteK_pos, iteK_neg, hk, IsaCheck, hkb]
theorem Encode_long (lent) (code : List Instr) (h : 16384 < code.length) : pureV E (om E) 46 lent [lst eInstr code] = some (.tuple [.scon [] 0 0 false, ii 16384, ii 73]) := by
 apply pu_46
 simp (disch := omega) [if_pos, if_neg, iteK_pos, iteK_neg, Tryz.f46]
def encodes (code : List Instr) : Prop := code.length ≤ 16384 ∧ ∀ i ∈ code, insBad i = 0
theorem Encode (code : List Instr) (hf : ∀ i ∈ code, insFits i) : ∃ out, ∃ at_ e : Nat, (∀ lent, pureV E (om E) 46 lent [lst eInstr code] = some (.tuple [out, ii at_, ii e])) ∧ (e = 0 ↔ encodes code) ∧ e < 140 ∧ (e = 0 → at_ = 0) := by
 by_cases hl : code.length ≤ 16384
 ·by_cases hb : ∀ i ∈ code, insBad i = 0
  ·exact ⟨_, 0, 0, fun lent => Encode_ok lent code hl hf hb, by simp [encodes, hl]; exact hb, by omega, by simp⟩
  ·have hex : ∃ k, ∃ h : k < code.length, insBad code[k] ≠ 0 := by
    obtain ⟨i, hi, hn⟩ : ∃ i, i ∈ code ∧ insBad i ≠ 0 := Classical.byContradiction fun hc => hb fun i hi => Classical.byContradiction fun hn => hc ⟨i, hi, hn⟩
    obtain ⟨k, hk, rfl⟩ := List.getElem_of_mem hi
    exact ⟨k, hk, hn⟩
   obtain ⟨k, ⟨hk, hn⟩, hmin⟩ : ∃ k, (∃ h : k < code.length, insBad code[k] ≠ 0) ∧ ∀ j, j < k → ¬ ∃ h : j < code.length, insBad code[j] ≠ 0 := by
    obtain ⟨k, hk⟩ := hex
    induction k using Nat.strongRecOn with
    | ind k ih =>
     by_cases h : ∃ j, j < k ∧ ∃ h : j < code.length, insBad code[j] ≠ 0
     ·obtain ⟨j, hj, hj'⟩ := h; exact ih j hj hj'
     ·exact ⟨k, hk, fun j hj hh => h ⟨j, hj, hh⟩⟩
   refine ⟨_, k, insBad code[k], fun lent => Encode_bad lent code k hk hl hf (fun j hj => ?_) hn, ⟨fun h => absurd h hn, fun h => absurd (h.2 _ (List.getElem_mem hk)) hn⟩, ?_, fun h => absurd h hn⟩
   ·by_cases h0 : insBad (code[j]'(by omega)) = 0
    ·exact h0
    ·exact absurd ⟨by omega, h0⟩ (hmin j hj)
   ·unfold insBad; split <;> (try split) <;> omega
 ·exact ⟨_, 16384, 73, fun lent => Encode_long lent code (by omega), by simp [encodes, hl], by omega, by simp⟩
end Go.Proofs.YtfplmcpkagpaiaaGreatDoor.Fl
end
