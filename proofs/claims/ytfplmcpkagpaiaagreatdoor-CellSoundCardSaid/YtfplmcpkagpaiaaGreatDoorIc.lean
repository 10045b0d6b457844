/-
 slices.Grow and slices.Concat of bytes; isa.Encode.
 image.Check.
 image.Encode: what it needs.
 Plain facts: one byte turned is told by the sum.
 What the texts on gaps lean on, together.
 The law ImageGaps, walked.
 Plain facts: what lies between the segments says nothing.
 Plain facts: what is written is read again.
 Plain facts: what is written is read again: the header.
 Plain facts: what is read may be written, and is no longer then.
-/
import Derived.Test.YtfplmcpkagpaiaaGreatDoorIb
import Derived.Test.YtfplmcpkagpaiaaGreatDoorIa
set_option maxRecDepth 100000
set_option maxHeartbeats 0
set_option linter.unusedSimpArgs false
set_option linter.unusedVariables false
section
namespace Go.Proofs.YtfplmcpkagpaiaaGreatDoor
open Go Go.Sim
theorem GrowByte (n : Nat) (hn : 0 < n) (hn' : n < 2 ^ 40) (B : List Blk) (r : Heap) : callV E (om E) 82 [.nilslice, ii n] (B :: r) =
  some (.sref 0 B.length 0 0 0 (1, false), (B ++ [.row (cat eU8 (List.replicate n 0)) 0 1 true true]) :: r) := by
 rw [call_82]
 have key : bodyV E (om E) 82 (V.upL 1 [.nilslice, ii n]) ([] :: B :: r) = some (.sref 0 0 0 0 0 (1, false), [.row (cat eU8 (List.replicate n 0)) 0 1 true true] :: B :: r) := by
  apply bo_82
  simp (disch := omega) [if_pos, if_neg, iteK_pos, iteK_neg, Tryz.f82, hn]
  rw [append_zeros (elem := 5) (k := 1) (kk := .i64) (z := .int .u8 0) (by_ := 1) (by simp) (by simp) (by simp) (by simp) (by simp) (by omega) (by simp) (by omega),
   show rep (V.cells (.int .u8 0)) (n : Int).toNat = cat eU8 (List.replicate n 0) from rep_cat eU8 0 n]
  simp (disch := omega) [if_pos, if_neg, iteK_pos, iteK_neg]
 rw [key]
 simp (disch := omega) [if_pos, if_neg, iteK_pos, iteK_neg]
def nz (l : List UInt8) : Nat := if l = [] then 0 else 1
theorem nz_nil : nz [] = 0 := rfl
theorem nz_some {l : List UInt8} (h : ¬ l = []) : nz l = 1 := if_neg h
theorem Concat2_body (a b : List UInt8) (c1 : ¬ a = []) (c2 : ¬ b = []) (ha : a.length < 2 ^ 30) (hb : b.length < 2 ^ 30) (hs : 0 < a.length + b.length) : bodyV E (om E) 53 [.scon [bs a, bs b] 0 2 false] [[]] = some (.sref 0 0 0 (a.length + b.length) 2 (1, false), [[.row (cat eU8 (a ++ b)) 2 1 true true]]) := by
 apply bo_53
 simp (disch := omega) [if_pos, if_neg, iteK_pos, iteK_neg, Tryz.f53]
 iterate 3
  apply loop_next (dyn := []) hint_53_0 (by kernel_rfl)
  simp (disch := omega) [if_pos, if_neg, iteK_pos, iteK_neg, c1, c2]
  rw [lpB_eq]
  simp (disch := omega) [if_pos, if_neg, iteK_pos, iteK_neg, c1, c2]
 rw [show (a.length : Int) + b.length = ((a.length + b.length : Nat) : Int) by omega, GrowByte _ hs (by omega)]
 simp (disch := omega) [if_pos, if_neg, iteK_pos, iteK_neg, c1, c2]
 iterate 3
  apply loop_next (dyn := []) hint_53_1 (by kernel_rfl)
  simp (disch := omega) [if_pos, if_neg, iteK_pos, iteK_neg, c1, c2]
  rw [lpB_eq]
  simp (disch := omega) [if_pos, if_neg, iteK_pos, iteK_neg, c1, c2]
 exact (cat_append eU8 a b).symm
theorem Concat4_abcd (a b c d : List UInt8) (c1 : ¬ a = []) (c2 : ¬ b = []) (c3 : ¬ c = []) (c4 : ¬ d = []) (ha : a.length < 2 ^ 30) (hb : b.length < 2 ^ 30) (hc : c.length < 2 ^ 30) (hd : d.length < 2 ^ 30) (hs : 0 < a.length + b.length + c.length + d.length) : bodyV E (om E) 53 [.scon [bs a, bs b, bs c, bs d] 0 4 false] [[]] = some (.sref 0 0 0 (a.length + b.length + c.length + d.length) 4 (1, false), [[.row (cat eU8 (a ++ b ++ c ++ d)) 4 1 true true]]) := by
 apply bo_53
 simp (disch := omega) [if_pos, if_neg, iteK_pos, iteK_neg, Tryz.f53]
 iterate 5
  apply loop_next (dyn := []) hint_53_0 (by kernel_rfl)
  simp (disch := omega) [if_pos, if_neg, iteK_pos, iteK_neg, c1, c2, c3, c4]
  rw [lpB_eq]
  simp (disch := omega) [if_pos, if_neg, iteK_pos, iteK_neg, c1, c2, c3, c4]
 rw [show (a.length : Int) + b.length + c.length + d.length = ((a.length + b.length + c.length + d.length : Nat) : Int) by omega, GrowByte _ hs (by omega)]
 simp (disch := omega) [if_pos, if_neg, iteK_pos, iteK_neg, c1, c2, c3, c4]
 iterate 5
  apply loop_next (dyn := []) hint_53_1 (by kernel_rfl)
  simp (disch := omega) [if_pos, if_neg, iteK_pos, iteK_neg, c1, c2, c3, c4]
  rw [lpB_eq]
  simp (disch := omega) [if_pos, if_neg, iteK_pos, iteK_neg, c1, c2, c3, c4]
 simp only [cat_append, List.append_assoc]
 rw [List.take_of_length_le (by simp), List.take_of_length_le (by simp)]
 simp
theorem Concat4_bcd (b c d : List UInt8) (c2 : ¬ b = []) (c3 : ¬ c = []) (c4 : ¬ d = []) (hb : b.length < 2 ^ 30) (hc : c.length < 2 ^ 30) (hd : d.length < 2 ^ 30) (hs : 0 < b.length + c.length + d.length) : bodyV E (om E) 53 [.scon [bs [], bs b, bs c, bs d] 0 4 false] [[]] = some (.sref 0 0 0 (b.length + c.length + d.length) 3 (1, false), [[.row (cat eU8 (b ++ c ++ d)) 3 1 true true]]) := by
 apply bo_53
 simp (disch := omega) [if_pos, if_neg, iteK_pos, iteK_neg, Tryz.f53]
 iterate 5
  apply loop_next (dyn := []) hint_53_0 (by kernel_rfl)
  simp (disch := omega) [if_pos, if_neg, iteK_pos, iteK_neg, c2, c3, c4]
  rw [lpB_eq]
  simp (disch := omega) [if_pos, if_neg, iteK_pos, iteK_neg, c2, c3, c4]
 rw [show (b.length : Int) + c.length + d.length = ((b.length + c.length + d.length : Nat) : Int) by omega, GrowByte _ hs (by omega)]
 simp (disch := omega) [if_pos, if_neg, iteK_pos, iteK_neg, c2, c3, c4]
 iterate 5
  apply loop_next (dyn := []) hint_53_1 (by kernel_rfl)
  simp (disch := omega) [if_pos, if_neg, iteK_pos, iteK_neg, c2, c3, c4]
  rw [lpB_eq]
  simp (disch := omega) [if_pos, if_neg, iteK_pos, iteK_neg, c2, c3, c4]
 simp only [cat_append, List.append_assoc]
 rw [List.take_of_length_le (by simp)]
 simp
theorem Concat4_abc (a b c : List UInt8) (c1 : ¬ a = []) (c2 : ¬ b = []) (c3 : ¬ c = []) (ha : a.length < 2 ^ 30) (hb : b.length < 2 ^ 30) (hc : c.length < 2 ^ 30) (hs : 0 < a.length + b.length + c.length) : bodyV E (om E) 53 [.scon [bs a, bs b, bs c, bs []] 0 4 false] [[]] = some (.sref 0 0 0 (a.length + b.length + c.length) 3 (1, false), [[.row (cat eU8 (a ++ b ++ c)) 3 1 true true]]) := by
 apply bo_53
 simp (disch := omega) [if_pos, if_neg, iteK_pos, iteK_neg, Tryz.f53]
 iterate 5
  apply loop_next (dyn := []) hint_53_0 (by kernel_rfl)
  simp (disch := omega) [if_pos, if_neg, iteK_pos, iteK_neg, c1, c2, c3]
  rw [lpB_eq]
  simp (disch := omega) [if_pos, if_neg, iteK_pos, iteK_neg, c1, c2, c3]
 rw [show (a.length : Int) + b.length + c.length = ((a.length + b.length + c.length : Nat) : Int) by omega, GrowByte _ hs (by omega)]
 simp (disch := omega) [if_pos, if_neg, iteK_pos, iteK_neg, c1, c2, c3]
 iterate 5
  apply loop_next (dyn := []) hint_53_1 (by kernel_rfl)
  simp (disch := omega) [if_pos, if_neg, iteK_pos, iteK_neg, c1, c2, c3]
  rw [lpB_eq]
  simp (disch := omega) [if_pos, if_neg, iteK_pos, iteK_neg, c1, c2, c3]
 simp only [cat_append, List.append_assoc]
 rw [List.take_of_length_le (by simp)]
 simp
theorem Concat4_bc (b c : List UInt8) (c2 : ¬ b = []) (c3 : ¬ c = []) (hb : b.length < 2 ^ 30) (hc : c.length < 2 ^ 30) (hs : 0 < b.length + c.length) : bodyV E (om E) 53 [.scon [bs [], bs b, bs c, bs []] 0 4 false] [[]] = some (.sref 0 0 0 (b.length + c.length) 2 (1, false), [[.row (cat eU8 (b ++ c)) 2 1 true true]]) := by
 apply bo_53
 simp (disch := omega) [if_pos, if_neg, iteK_pos, iteK_neg, Tryz.f53]
 iterate 5
  apply loop_next (dyn := []) hint_53_0 (by kernel_rfl)
  simp (disch := omega) [if_pos, if_neg, iteK_pos, iteK_neg, c2, c3]
  rw [lpB_eq]
  simp (disch := omega) [if_pos, if_neg, iteK_pos, iteK_neg, c2, c3]
 rw [show (b.length : Int) + c.length = ((b.length + c.length : Nat) : Int) by omega, GrowByte _ hs (by omega)]
 simp (disch := omega) [if_pos, if_neg, iteK_pos, iteK_neg, c2, c3]
 iterate 5
  apply loop_next (dyn := []) hint_53_1 (by kernel_rfl)
  simp (disch := omega) [if_pos, if_neg, iteK_pos, iteK_neg, c2, c3]
  rw [lpB_eq]
  simp (disch := omega) [if_pos, if_neg, iteK_pos, iteK_neg, c2, c3]
 simp only [cat_append, List.append_assoc]
theorem Concat4_body (a b c d : List UInt8) (c2 : ¬ b = []) (c3 : ¬ c = []) (ha : a.length < 2 ^ 30) (hb : b.length < 2 ^ 30) (hc : c.length < 2 ^ 30) (hd : d.length < 2 ^ 30) : bodyV E (om E) 53 [.scon [bs a, bs b, bs c, bs d] 0 4 false] [[]] = some (.sref 0 0 0 (a.length + b.length + c.length + d.length) (nz a + 2 + nz d) (1, false), [[.row (cat eU8 (a ++ b ++ c ++ d)) (nz a + 2 + nz d) 1 true true]]) := by
 have hs : 0 < b.length := List.length_pos_iff.2 c2
 by_cases c1 : a = []
 ·by_cases c4 : d = []
  ·subst c1 c4
   have := Concat4_bc b c c2 c3 hb hc (by omega)
   simpa [nz_nil] using this
  ·subst c1
   have := Concat4_bcd b c d c2 c3 c4 hb hc hd (by omega)
   simpa [nz_nil, nz_some c4] using this
 ·by_cases c4 : d = []
  ·subst c4
   have := Concat4_abc a b c c1 c2 c3 ha hb hc (by omega)
   simpa [nz_nil, nz_some c1] using this
  ·have := Concat4_abcd a b c d c1 c2 c3 c4 ha hb hc hd (by omega)
   simpa [nz_some c1, nz_some c4] using this
theorem Concat2_at {s : V} {a b : List UInt8} {B : List Blk} {r : Heap} (hv : viewArgs (B :: r) [s] = some [.scon [bs a, bs b] 0 2 false]) (c1 : ¬ a = []) (c2 : ¬ b = []) (ha : a.length < 2 ^ 30) (hb : b.length < 2 ^ 30) (hs : 0 < a.length + b.length) :
  callV E (om E) 53 [s] (B :: r) = some (.sref 0 B.length 0 (a.length + b.length) 2 (1, false), (B ++ [.row (cat eU8 (a ++ b)) 2 1 true true]) :: r) := by
 rw [call_53, hv]
 simp (disch := omega) [if_pos, if_neg, iteK_pos, iteK_neg, Concat2_body a b c1 c2 ha hb hs]
theorem Concat4_at {s : V} {a b c d : List UInt8} {B : List Blk} {r : Heap} (hv : viewArgs (B :: r) [s] = some [.scon [bs a, bs b, bs c, bs d] 0 4 false]) (c2 : ¬ b = []) (c3 : ¬ c = []) (ha : a.length < 2 ^ 30) (hb : b.length < 2 ^ 30) (hc : c.length < 2 ^ 30) (hd : d.length < 2 ^ 30) :
  callV E (om E) 53 [s] (B :: r) = some (.sref 0 B.length 0 (a.length + b.length + c.length + d.length) (nz a + 2 + nz d) (1, false), (B ++ [.row (cat eU8 (a ++ b ++ c ++ d)) (nz a + 2 + nz d) 1 true true]) :: r) := by
 rw [call_53, hv]
 simp (disch := omega) [if_pos, if_neg, iteK_pos, iteK_neg, Concat4_body a b c d c2 c3 ha hb hc hd]
noncomputable def encOne (i : Instr) : List UInt8 := i.op :: (bytes4 i.arg).take (rowOf i.op.toNat).width
noncomputable def encI (l : List Instr) : List UInt8 := l.flatMap encOne
theorem encOne_len (i : Instr) : (encOne i).length = 1 + (rowOf i.op.toNat).width := by
 have := (rowOf_some i.op).1
 simp [encOne]; omega
theorem encI_len (l : List Instr) : (encI l).length ≤ 5 * l.length := by
 induction l with
 | nil => simp [encI]
 | cons x l ih =>
  have := encOne_len x
  have := (rowOf_some x.op).1
  simp only [encI, List.flatMap_cons, List.length_append, List.length_cons] at ih ⊢
  omega
theorem IsaEncode (lent) (code : List Instr) (h : code.length ≤ 16384) (hb : ∀ i ∈ code, insBad i = 0) : pureV E (om E) 46 lent [lst eInstr code] = some (.tuple [bs (encI code), ii 0, ii 0]) := by
 apply pu_46
 have hput : ∀ lent (x : UInt32), pureV E (om E) 54 lent [.scon [w32 x.toNat] 0 1 false] = some (bs (bytes4 x)) := fun lent x => by
  have := Put32 lent [x] (by simp)
  rw [show words [x] = bytes4 x by simp [words]] at this
  exact this
 have hput2 : ∀ lent (x : UInt32), pureV E (om E) 54 lent [.scon (V.canonL (cutCells [w32 x.toNat] 0 1 1)) 0 1 false] = some (bs (bytes4 x)) := fun lent x => hput lent x
 simp (disch := omega) [if_pos, if_neg, iteK_pos, iteK_neg, Tryz.f46]
 refine loop_use (dyn := [11]) (fun (a : Nat × Nat) => [lst eInstr code, xx, xx, xx, xx, .sref 0 0 0 (encI (code.take a.1)).length a.2 (1, false), xx, xx, xx, lst eInstr code, ii code.length, bb (decide ((16384 : Int) < code.length)), lst eInstr code, ii code.length, ii a.1] ++ pois 27)
  (fun a => [[.row (cat eU8 (encI (code.take a.1))) a.2 1 true true]]) (fun a => a.1 ≤ code.length) (fun a => code.length - a.1) hint_46_0 (by kernel_rfl) ?_ (0, 0) (by simp) (by simp [encI])
 rintro ⟨i, e⟩ hi IH
 rw [lpB_eq]
 dsimp only at hi ⊢
 have hl := encI_len (code.take i)
 have hle : (code.take i).length = i := by simp; omega
 by_cases hlt : i < code.length
 ·have hbi : insBad code[i] = 0 := hb _ (List.getElem_mem hlt)
  have hw := (rowOf_some code[i].op).1
  have e1 : (1 + ((rowOf code[i].op.toNat).width : Int)).toNat - 1 = (rowOf code[i].op.toNat).width := by omega
  have hnew : encI (code.take (i + 1)) = encI (code.take i) ++ (code[i].op :: (bytes4 code[i].arg).take (rowOf code[i].op.toNat).width) := by
   rw [take_snoc hlt]; unfold encI; rw [List.flatMap_append, List.flatMap_singleton]; rfl
  have hlen : (encI (code.take (i + 1))).length = (encI (code.take i)).length + 1 + (rowOf code[i].op.toNat).width := by
   rw [hnew]; simp; omega
  have hrow : cat eU8 (encI (code.take i)) ++ [V.int .u8 (code[i].op.toNat : Int)] ++ cat eU8 ((bytes4 code[i].arg).take (rowOf code[i].op.toNat).width) = cat eU8 (encI (code.take (i + 1))) := by
   rw [hnew, cat_append, List.append_assoc]; rfl
  by_cases hw0 : (rowOf code[i].op.toNat).width = 0
  ·have e0 : (1 + ((rowOf code[i].op.toNat).width : Int)).toNat - 1 = 0 := by omega
   have hrow0 : cat eU8 (encI (code.take i)) ++ [V.int .u8 (code[i].op.toNat : Int)] = cat eU8 (encI (code.take (i + 1))) := by rw [← hrow, hw0]; simp
   simp (disch := omega) [if_pos, if_neg, iteK_pos, iteK_neg, hlt, IsaCheck, IsaSize, hbi, hput2, e0]
   rw [iteK_pos (by kernel_rfl)]
   simp (disch := omega) [if_pos, if_neg, iteK_pos, iteK_neg, hlt, IsaCheck, IsaSize, hbi, hput2, e0]
   rw [hrow0]
   exact IH (i + 1, e + 1) _ _ (by simp only; omega) (by simp only; omega) (by simp [hlen, hw0])
  ·have e0 : ¬ (1 + ((rowOf code[i].op.toNat).width : Int)).toNat - 1 = 0 := by omega
   simp (disch := omega) [if_pos, if_neg, iteK_pos, iteK_neg, hlt, IsaCheck, IsaSize, hbi, hput2, e0]
   rw [iteK_pos (by kernel_rfl)]
   simp (disch := omega) [if_pos, if_neg, iteK_pos, iteK_neg, hlt, IsaCheck, IsaSize, hbi, hput2, e0]
   rw [e1, List.take_of_length_le (l := cat eU8 (encI (code.take i)) ++ _) (by simp), List.take_take, Nat.min_self, hrow]
   exact IH (i + 1, e + 2) _ _ (by simp only; omega) (by simp only; omega) (by simp [hlen])
 ·simp (disch := omega) [if_pos, if_neg, iteK_pos, iteK_neg, hlt]
  rw [List.take_of_length_le (by omega)]
end Go.Proofs.YtfplmcpkagpaiaaGreatDoor
end
section
namespace Go.Proofs.YtfplmcpkagpaiaaGreatDoor
open Go Go.Sim
theorem room63 (lent) (d : Nat) (z s : UInt32) (hd : d < 2 ^ 63) : pureV E (om E) 40 lent [ii d, w32 z.toNat, w32 s.toNat] = some (w64 (d + z.toNat + s.toNat)) := by
 apply pu_40
 have := z.toNat_lt; have := s.toNat_lt
 simp (disch := omega) [if_pos, if_neg, iteK_pos, iteK_neg, Tryz.f40]
noncomputable def codeFrom (l : List Instr) (k : Nat) : Nat := if h : k < l.length then (if insBad l[k] ≠ 0 then insBad l[k] else codeFrom l (k + 1)) else 0
termination_by l.length - k
def namesFrom (l : List Export) (k : Nat) : Bool := if k < l.length then nameOk l k && namesFrom l (k + 1) else true
termination_by l.length - k
noncomputable def checkP (x : Img) : Nat :=
 if 16384 < x.code.length then 73 else if codeFrom x.code 0 ≠ 0 then codeFrom x.code 0 else if 16384 < x.jumps.length then 86
 else if stackOk x.stack = false then 85 else if 65536 < x.data.length + x.zero.toNat + x.stack.toNat then 85
 else if 64 < x.names.length then 87 else if namesFrom x.names 0 = false then 87 else 0
abbrev chkL (x : Img) (i : Nat) (r : List V) : List V := imgV x :: .pref 0 0 0 0 :: xx :: xx :: xx :: xx :: xx :: .pref 0 0 0 0 :: lst eInstr x.code :: ii x.code.length :: bb (decide ((16384 : Int) < x.code.length)) :: .pref 0 0 0 0 :: lst eInstr x.code :: ii x.code.length :: ii i :: r
abbrev chkH (x : Img) : Heap := [[.row [lst eInstr x.code, ws x.jumps, bs x.data, w32 x.zero.toNat, w32 x.stack.toNat, lst eExport x.names] 0 6 true false]]
set_option maxHeartbeats 2000000 in
theorem ImageCheck (lent) (x : Img) (h1 : x.code.length < 2 ^ 63) (h2 : x.jumps.length < 2 ^ 63) (h3 : x.data.length < 2 ^ 63) (h4 : x.names.length < 2 ^ 63) : pureV E (om E) 15 lent [imgV x] = some (ii (checkP x)) := by
 apply pu_15
 by_cases c1 : 16384 < x.code.length
 ·simp (disch := omega) [if_pos, if_neg, iteK_pos, iteK_neg, Tryz.f15, c1, checkP]
 simp (disch := omega) [if_pos, if_neg, iteK_pos, iteK_neg, Tryz.f15, c1]
 refine loop_use (dyn := []) (fun (i : Nat) => chkL x i (pois 44)) (fun _ => chkH x) (fun i => i ≤ x.code.length ∧ codeFrom x.code 0 = codeFrom x.code i) (fun i => x.code.length - i) hint_15_0 (by kernel_rfl) ?_ 0 (by simp) (by simp [chkL, chkH])
 rintro i ⟨hi, hcf⟩ IH
 rw [lpB_eq]
 by_cases hlt : i < x.code.length
 ·have hst : codeFrom x.code i = if insBad x.code[i] ≠ 0 then insBad x.code[i] else codeFrom x.code (i + 1) := by rw [codeFrom, dif_pos hlt]
  rw [hst] at hcf
  by_cases hb : insBad x.code[i] = 0
  ·rw [if_neg (by simp [hb])] at hcf
   simp (disch := omega) [if_pos, if_neg, iteK_pos, iteK_neg, hlt, IsaCheck, hb]
   exact IH (i + 1) _ _ ⟨by omega, hcf⟩ (by omega) (by simp [chkL, chkH])
  ·rw [if_pos hb] at hcf
   have : checkP x = insBad x.code[i] := by unfold checkP; rw [if_neg c1, if_pos (by rw [hcf]; exact hb), hcf]
   rw [this]
   simp (disch := omega) [if_pos, if_neg, iteK_pos, iteK_neg, hlt, IsaCheck, hb]
 ·have hS : ∀ lent, pureV E (om E) 39 lent [w32 x.stack.toNat] = some (bb (stackOk x.stack)) := fun lent => stackMay lent _
  have hst : codeFrom x.code i = 0 := by rw [codeFrom, dif_neg hlt]
  rw [hst] at hcf
  clear IH
  by_cases c2 : 16384 < x.jumps.length
  ·simp (disch := omega) [if_pos, if_neg, iteK_pos, iteK_neg, hlt, c1, hcf, c2, checkP]
  by_cases c3 : stackOk x.stack = false
  ·simp (disch := omega) [if_pos, if_neg, iteK_pos, iteK_neg, hlt, c1, hcf, c2, c3, checkP, hS]
  replace c3 : stackOk x.stack = true := by simpa using c3
  by_cases c4 : 65536 < x.data.length + x.zero.toNat + x.stack.toNat
  ·simp (disch := omega) [if_pos, if_neg, iteK_pos, iteK_neg, hlt, c1, hcf, c2, c3, c4, checkP, hS, room63]
  by_cases c5 : 64 < x.names.length
  ·simp (disch := omega) [if_pos, if_neg, iteK_pos, iteK_neg, hlt, c1, hcf, c2, c3, c4, c5, checkP, hS, room63]
  simp (disch := omega) [if_pos, if_neg, iteK_pos, iteK_neg, hlt, c1, hcf, c2, c3, c4, c5, checkP, hS, room63]
  have hNm := fun lent j hj => nameMay lent x.names j hj (by omega)
  obtain rfl : i = x.code.length := by omega
  refine loop_use (dyn := []) (fun (j : Nat) => chkL x x.code.length (bb false :: xx :: xx :: xx :: xx :: xx :: xx :: xx :: xx :: .pref 0 0 1 0 :: ws x.jumps :: ii x.jumps.length :: bb (decide ((16384 : Int) < x.jumps.length)) :: .pref 0 0 4 0 :: w32 x.stack.toNat :: bb true :: bb false ::
    bb false :: .pref 0 0 2 0 :: bs x.data :: ii x.data.length :: .pref 0 0 3 0 :: w32 x.zero.toNat :: .pref 0 0 4 0 :: w32 x.stack.toNat :: w64 (x.data.length + x.zero.toNat + x.stack.toNat) :: bb (decide ((65536 : Int) < x.data.length + x.zero.toNat + x.stack.toNat)) ::
    bb (decide ((65536 : Int) < x.data.length + x.zero.toNat + x.stack.toNat)) :: .pref 0 0 5 0 :: lst eExport x.names :: ii x.names.length :: bb (decide ((64 : Int) < x.names.length)) :: .pref 0 0 5 0 :: lst eExport x.names :: ii x.names.length :: ii j :: pois 8))
   (fun _ => chkH x) (fun j => j ≤ x.names.length ∧ namesFrom x.names 0 = namesFrom x.names j) (fun j => x.names.length - j) hint_15_1 (by kernel_rfl) ?_ 0 (by simp) (by simp [chkL, chkH])
  rintro j ⟨hj, hn⟩ IH
  rw [lpB_eq]
  by_cases hjl : j < x.names.length
  ·have hst : namesFrom x.names j = (nameOk x.names j && namesFrom x.names (j + 1)) := by rw [namesFrom, if_pos hjl]
   rw [hst] at hn
   by_cases hok : nameOk x.names j = true
   ·rw [hok, Bool.true_and] at hn
    simp (disch := omega) [if_pos, if_neg, iteK_pos, iteK_neg, hjl, hNm, hok]
    exact IH (j + 1) _ _ ⟨by omega, hn⟩ (by omega) (by simp [chkL, chkH])
   ·have hok' : nameOk x.names j = false := by simpa using hok
    rw [hok', Bool.false_and] at hn
    simp (disch := omega) [if_pos, if_neg, iteK_pos, iteK_neg, hjl, hNm, hok', hn]
  ·have hst : namesFrom x.names j = true := by rw [namesFrom, if_neg hjl]
   rw [hst] at hn
   simp (disch := omega) [if_pos, if_neg, iteK_pos, iteK_neg, hjl, hn]
end Go.Proofs.YtfplmcpkagpaiaaGreatDoor
end
section
namespace Go.Proofs.YtfplmcpkagpaiaaGreatDoor
open Go Go.Sim
theorem check_ok {x : Img} (h : checkP x = 0) : x.code.length ≤ 16384 ∧ codeFrom x.code 0 = 0 ∧ x.jumps.length ≤ 16384 ∧ stackOk x.stack = true ∧ x.data.length + x.zero.toNat + x.stack.toNat ≤ 65536 ∧ x.names.length ≤ 64 ∧ namesFrom x.names 0 = true := by
 unfold checkP at h
 by_cases c1 : 16384 < x.code.length
 ·simp [c1] at h
 rw [if_neg c1] at h
 by_cases c2 : codeFrom x.code 0 ≠ 0
 ·rw [if_pos c2] at h; exact absurd h c2
 rw [if_neg c2] at h
 by_cases c3 : 16384 < x.jumps.length
 ·simp [c3] at h
 rw [if_neg c3] at h
 by_cases c4 : stackOk x.stack = false
 ·simp [c4] at h
 rw [if_neg c4] at h
 by_cases c5 : 65536 < x.data.length + x.zero.toNat + x.stack.toNat
 ·simp [c5] at h
 rw [if_neg c5] at h
 by_cases c6 : 64 < x.names.length
 ·simp [c6] at h
 rw [if_neg c6] at h
 by_cases c7 : namesFrom x.names 0 = false
 ·simp [c7] at h
 exact ⟨by omega, by simpa using c2, by omega, by simpa using c4, by omega, by omega, by simpa using c7⟩
theorem code_good {l : List Instr} {k : Nat} (h : codeFrom l k = 0) : ∀ j, k ≤ j → (hj : j < l.length) → insBad l[j] = 0 := by
 intro j hkj hj
 rw [codeFrom, dif_pos (by omega)] at h
 by_cases hb : insBad l[k] ≠ 0
 ·rw [if_pos hb] at h; exact absurd h hb
 ·rw [if_neg hb] at h
  by_cases hq : k = j
  ·subst hq; simpa using hb
  ·exact code_good h j (by omega) hj
termination_by l.length - k
theorem code_all {x : Img} (h : checkP x = 0) : ∀ i ∈ x.code, insBad i = 0 := by
 intro i hi
 obtain ⟨j, hj, rfl⟩ := List.mem_iff_getElem.1 hi
 exact code_good (check_ok h).2.1 j (Nat.zero_le j) hj
theorem names_good {l : List Export} {k : Nat} (h : namesFrom l k = true) : ∀ j, k ≤ j → j < l.length → nameOk l j = true := by
 intro j hkj hj
 rw [namesFrom, if_pos (by omega), Bool.and_eq_true] at h
 by_cases hq : k = j
 ·subst hq; exact h.1
 ·exact names_good h.2 j (by omega) hj
termination_by l.length - k
theorem name_len {l : List Export} {j : Nat} (hj : j < l.length) (h : nameOk l j = true) : 1 ≤ l[j].name.length ∧ l[j].name.length ≤ 32 := by
 unfold nameOk at h
 rw [List.getElem?_eq_getElem hj] at h
 simp only [Bool.and_eq_true, decide_eq_true_eq] at h
 exact h.1
def nameB (n : Export) : List UInt8 := bytes4 n.place ++ [UInt8.ofNat n.name.length] ++ n.name
def namesB (l : List Export) : List UInt8 := l.flatMap nameB
theorem namesB_len {l : List Export} (h : ∀ n ∈ l, n.name.length ≤ 32) : (namesB l).length ≤ 37 * l.length := by
 induction l with
 | nil => simp [namesB]
 | cons x l ih =>
  have := ih fun n hn => h n (by simp [hn])
  have := h x (by simp)
  have e : (nameB x).length = 5 + x.name.length := by simp [nameB]; omega
  simp only [namesB, List.flatMap_cons, List.length_append, List.length_cons] at *
  omega
theorem PutN (lent) (l : List Nat) (h : ∀ n ∈ l, n < 4294967296) (hl : l.length < 2 ^ 20) : pureV E (om E) 54 lent [.scon (l.map fun n : Nat => V.int .u32 (n : Int)) 0 l.length false] = some (bs (words (l.map UInt32.ofNat))) := by
 have := Put32 lent (l.map UInt32.ofNat) (by simp; omega)
 have e : ws (l.map UInt32.ofNat) = .scon (l.map fun n : Nat => V.int .u32 (n : Int)) 0 l.length false := by
  have hc : cat eU32 (l.map UInt32.ofNat) = l.map fun n : Nat => V.int .u32 (n : Int) := by
   clear this hl
   induction l with
   | nil => rfl
   | cons x l ih =>
    have := h x (by simp)
    rw [List.map_cons, List.map_cons, ← ih fun n hn => h n (by simp [hn]), cat_cons]
    show w32 (UInt32.ofNat x).toNat :: _ = _
    rw [UInt32.toNat_ofNat', Nat.mod_eq_of_lt this]
    rfl
  show V.scon (cat eU32 _) 0 (l.map UInt32.ofNat).length false = _
  rw [hc, List.length_map]
 rw [e] at this
 exact this
theorem layFrom_cons {p : Nat} {n : UInt32} {r : List UInt32} (h : p + n.toNat ≤ 4294967295) : layFrom p (n :: r) = (layFrom (p + n.toNat) r).map fun l => ⟨UInt32.ofNat p, n⟩ :: l := by
 rw [layFrom, if_neg (by omega)]
theorem LayN (lent) (a b c d : Nat) (h : a + b + c + d < 2 ^ 30) : pureV E (om E) 56 lent [.int .u32 64, .scon (V.canonL (cutCells [.int .u32 (a : Int), .int .u32 (b : Int), .int .u32 (c : Int), .int .u32 (d : Int)] 0 4 1)) 0 4 false] =
  some (.tuple [.scon [.int .u32 64, .int .u32 (a : Int), .int .u32 ((64 + a : Nat) : Int), .int .u32 (b : Int), .int .u32 ((64 + a + b : Nat) : Int), .int .u32 (c : Int), .int .u32 ((64 + a + b + c : Nat) : Int), .int .u32 (d : Int)] 0 4 false, ii 0]) := by
 have e : ∀ n : Nat, n < 2 ^ 31 → (UInt32.ofNat n).toNat = n := fun n hn => by rw [UInt32.toNat_ofNat', Nat.mod_eq_of_lt (by omega)]
 have := Lay lent 64 [UInt32.ofNat a, UInt32.ofNat b, UInt32.ofNat c, UInt32.ofNat d] (by simp)
 have h64 : (64 : UInt32).toNat = 64 := rfl
 rw [h64, layFrom_cons (by rw [e a (by omega)]; omega), e a (by omega), layFrom_cons (by rw [e b (by omega)]; omega), e b (by omega), layFrom_cons (by rw [e c (by omega)]; omega), e c (by omega), layFrom_cons (by rw [e d (by omega)]; omega), layFrom] at this
 have hw : ws [UInt32.ofNat a, UInt32.ofNat b, UInt32.ofNat c, UInt32.ofNat d] = .scon (V.canonL (cutCells [.int .u32 (a : Int), .int .u32 (b : Int), .int .u32 (c : Int), .int .u32 (d : Int)] 0 4 1)) 0 4 false := by
  show V.scon [w32 (UInt32.ofNat a).toNat, w32 (UInt32.ofNat b).toNat, w32 (UInt32.ofNat c).toNat, w32 (UInt32.ofNat d).toNat] 0 4 false = V.scon [_, _, _, _] 0 4 false
  rw [e a (by omega), e b (by omega), e c (by omega), e d (by omega)]
  rfl
 rw [hw] at this
 refine this.trans ?_
 show some (V.tuple [.scon [w32 (UInt32.ofNat 64).toNat, w32 (UInt32.ofNat a).toNat, w32 (UInt32.ofNat (64 + a)).toNat, w32 (UInt32.ofNat b).toNat, w32 (UInt32.ofNat (64 + a + b)).toNat, w32 (UInt32.ofNat c).toNat, w32 (UInt32.ofNat (64 + a + b + c)).toNat, w32 (UInt32.ofNat d).toNat] 0 4 false, ii 0]) = _
 rw [e a (by omega), e b (by omega), e c (by omega), e d (by omega), e (64 + a) (by omega), e (64 + a + b) (by omega), e (64 + a + b + c) (by omega)]
 rfl
theorem conv22 (h : Heap) (d j o l ep : Nat) (q : Nat × Bool) : convertV Tryz.prog h 24 24 (.sref d j o l ep q) = match h.get d j with | some (.row cells ep' esz fl pl) => if ep = ep' ∧ 0 < l then some (.sref d j o l ep q, h.set d j (.row cells ep' esz fl pl)) else none | _ => none := by
 simp only [convertV, Tryz.underlying24, Tryz.underlying5]
 cases h.get d j with
 | none => rfl
 | some b => cases b <;> simp
theorem putP (lent) (a b : Int) (ha : 0 ≤ a ∧ a < 4294967296) (hb : 0 ≤ b ∧ b < 4294967296) : pureV E (om E) 54 lent [.scon (V.canonL (cutCells [.int .u32 a, .int .u32 b] 0 2 1)) 0 2 false] = some (bs (words [UInt32.ofNat a.toNat, UInt32.ofNat b.toNat])) := by
 obtain ⟨a, rfl⟩ := Int.eq_ofNat_of_zero_le ha.1
 obtain ⟨b, rfl⟩ := Int.eq_ofNat_of_zero_le hb.1
 exact PutN lent [a, b] (by simp; omega) (by simp)
theorem putT3 (lent) (n : Nat) (hn : n < 4294967296) : pureV E (om E) 54 lent [.scon (V.canonL (cutCells [.int .u32 1, .int .u32 0, .int .u32 (n : Int)] 0 3 1)) 0 3 false] = some (bs (words [1, 0, UInt32.ofNat n])) :=
 PutN lent [1, 0, n] (by simp; omega) (by simp)
theorem putT4 (lent) (a b : UInt32) : pureV E (om E) 54 lent [.scon (V.canonL (cutCells [.int .u32 (a.toNat : Int), .int .u32 (b.toNat : Int), .int .u32 0, .int .u32 0] 0 4 1)) 0 4 false] = some (bs (words [a, b, 0, 0])) := by
 have := PutN lent [a.toNat, b.toNat, 0, 0] (by have := a.toNat_lt; have := b.toNat_lt; simp; omega) (by simp)
 rw [show List.map UInt32.ofNat [a.toNat, b.toNat, 0, 0] = [a, b, 0, 0] by simp] at this
 exact this
theorem canon8 (l : List UInt8) : V.canon (lst eU8 l) = lst eU8 l := by simp
theorem sealed_at {s : V} {l : List UInt8} {B : List Blk} {r : Heap} (hv : viewArgs (B :: r) [s] = some [bs l]) (hl : l.length < 2 ^ 40) (h : 64 ≤ l.length) : callV E (om E) 57 [s] (B :: r) = some (.sref 0 (B.length + 3) 0 l.length 0 (1, false), (B ++ [.row [] 0 1 true true, .row (cat eU8 (with4 l 8 0)) 0 1 true true, .row [] 0 1 true true, .row (cat eU8 (sealP l)) 0 1 true true]) :: r) := by
 rw [call_57, hv]
 have := sealed_body l hl h
 simp (disch := omega) [if_pos, if_neg, iteK_pos, iteK_neg, this, sealP]
noncomputable abbrev encL (x : Img) (nm : V) (i : Nat) (r : List V) : List V := imgV x :: .pref 0 0 0 0 :: .nilslice :: ii 0 :: ii 0 :: bs (encI x.code) :: ii 0 :: ii 0 :: nm :: xx :: xx :: xx :: xx :: xx :: xx :: xx :: xx :: xx :: xx :: xx :: xx ::
 imgV x :: ii 0 :: ii 0 :: bb false :: xx :: .tuple [bs (encI x.code), ii 0, ii 0] :: .pref 0 0 0 0 :: lst eInstr x.code :: .tuple [bs (encI x.code), ii 0, ii 0] :: bs (encI x.code) :: ii 0 :: ii 0 :: ii 0 :: bb false :: xx :: .pref 0 0 5 0 ::
 lst eExport x.names :: ii x.names.length :: ii i :: r
noncomputable def encF (x : Img) : List UInt8 := [80, 69, 78, 33] ++ words [1, 0, UInt32.ofNat x.code.length] ++ words [64, UInt32.ofNat (encI x.code).length] ++ words [UInt32.ofNat (64 + (encI x.code).length), UInt32.ofNat (words x.jumps).length] ++
 words [UInt32.ofNat (64 + (encI x.code).length + (words x.jumps).length), UInt32.ofNat x.data.length] ++ words [UInt32.ofNat (64 + (encI x.code).length + (words x.jumps).length + x.data.length), UInt32.ofNat (namesB x.names).length] ++
 words [x.zero, x.stack, 0, 0] ++ encI x.code ++ words x.jumps ++ x.data ++ namesB x.names
noncomputable def encP (x : Img) : List UInt8 := sealP (encF x)
theorem cat_map8e (l : List UInt8) : cat eU8 l = l.map fun b => V.int .u8 (b.toNat : Int) := by
 induction l with
 | nil => rfl
 | cons x l ih => rw [List.map_cons, ← ih]; rfl
end Go.Proofs.YtfplmcpkagpaiaaGreatDoor
end
section
namespace Go.Proofs.YtfplmcpkagpaiaaGreatDoor
open Go Go.Sim
end Go.Proofs.YtfplmcpkagpaiaaGreatDoor
end
section
namespace Go.Proofs.YtfplmcpkagpaiaaGreatDoor
open Go Go.Sim
end Go.Proofs.YtfplmcpkagpaiaaGreatDoor
end
section
namespace Go.Proofs.YtfplmcpkagpaiaaGreatDoor
open Go Go.Sim
end Go.Proofs.YtfplmcpkagpaiaaGreatDoor
end
section
namespace Go.Proofs.YtfplmcpkagpaiaaGreatDoor
open Go Go.Sim
theorem word_congr {a b : List UInt8} {n : Nat} (ha : n + 4 ≤ a.length) (hb : n + 4 ≤ b.length) (h : ∀ j, j < 4 → a[n + j]? = b[n + j]?) : wordAt a n = wordAt b n := by
 obtain ⟨p, q, r, s, t, hd⟩ := drop4 ha
 obtain ⟨p', q', r', s', t', hd'⟩ := drop4 hb
 have e : ∀ j, j < 4 → (a.drop n)[j]? = (b.drop n)[j]? := fun j hj => by rw [List.getElem?_drop, List.getElem?_drop]; exact h j hj
 rw [hd, hd'] at e
 have e0 := e 0 (by omega); have e1 := e 1 (by omega); have e2 := e 2 (by omega); have e3 := e 3 (by omega)
 simp at e0 e1 e2 e3
 unfold wordAt
 rw [hd, hd', e0, e1, e2, e3]
end Go.Proofs.YtfplmcpkagpaiaaGreatDoor
end
section
namespace Go.Proofs.YtfplmcpkagpaiaaGreatDoor
open Go Go.Sim
end Go.Proofs.YtfplmcpkagpaiaaGreatDoor
end
section
namespace Go.Proofs.YtfplmcpkagpaiaaGreatDoor
open Go Go.Sim
noncomputable def headW (x : Img) : List UInt32 := [1, 0, UInt32.ofNat x.code.length, 64, UInt32.ofNat (encI x.code).length, UInt32.ofNat (64 + (encI x.code).length), UInt32.ofNat (words x.jumps).length,
 UInt32.ofNat (64 + (encI x.code).length + (words x.jumps).length), UInt32.ofNat x.data.length, UInt32.ofNat (64 + (encI x.code).length + (words x.jumps).length + x.data.length), UInt32.ofNat (namesB x.names).length, x.zero, x.stack, 0, 0]
theorem encF_eq (x : Img) : encF x = [80, 69, 78, 33] ++ words (headW x) ++ (encI x.code ++ words x.jumps ++ x.data ++ namesB x.names) := by
 have e : ∀ a b : List UInt32, words a ++ words b = words (a ++ b) := fun a b => (words_append a b).symm
 unfold encF headW
 simp [words]
structure Sizes (x : Img) : Prop where
 a : (encI x.code).length ≤ 81920
 b : (words x.jumps).length ≤ 65536
 c : x.data.length ≤ 65536
 d : (namesB x.names).length ≤ 2368
 code : x.code.length ≤ 16384
theorem sizes {x : Img} (hc : checkP x = 0) : Sizes x := by
 obtain ⟨c1, c2, c3, c4, c5, c6, c7⟩ := check_ok hc
 have a0 := encI_len x.code
 have a1 := words_length x.jumps
 have hn32 : ∀ n ∈ x.names, n.name.length ≤ 32 := fun n hn => by
  obtain ⟨j, hj, rfl⟩ := List.mem_iff_getElem.1 hn
  exact (name_len hj (names_good c7 j (Nat.zero_le j) hj)).2
 have := namesB_len hn32
 exact ⟨by omega, by omega, by omega, by omega, c1⟩
theorem encF_len (x : Img) : (encF x).length = 64 + (encI x.code).length + (words x.jumps).length + x.data.length + (namesB x.names).length := by
 rw [encF_eq]; simp [words_length, headW]; omega
theorem u32 {n : Nat} (h : n < 4294967296) : (UInt32.ofNat n).toNat = n := by rw [UInt32.toNat_ofNat', Nat.mod_eq_of_lt h]
end Go.Proofs.YtfplmcpkagpaiaaGreatDoor
end
section
namespace Go.Proofs.YtfplmcpkagpaiaaGreatDoor
open Go Go.Sim
theorem codeFrom_good {l : List Instr} {k : Nat} (h : ∀ i ∈ l, insBad i = 0) : codeFrom l k = 0 := by
 rw [codeFrom]
 split
 ·rename_i hk
  rw [if_neg (by simp [h _ (List.getElem_mem hk)])]
  exact codeFrom_good h
 ·rfl
termination_by l.length - k
theorem namesFrom_good {l : List Export} {k : Nat} (h : ∀ j, j < l.length → nameOk l j = true) : namesFrom l k = true := by
 rw [namesFrom]
 split
 ·rename_i hk
  rw [h k hk, namesFrom_good h]; rfl
 ·rfl
termination_by l.length - k
end Go.Proofs.YtfplmcpkagpaiaaGreatDoor
end
