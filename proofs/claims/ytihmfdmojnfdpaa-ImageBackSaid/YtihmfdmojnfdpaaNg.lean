/-
  slices.Grow and slices.Concat of bytes; isa.Encode.
  image.Check.
  image.Encode: what it needs.
  Plain facts: what is written is read again.
  Plain facts: what is written is read again: the header.
  Plain facts: what is read may be written, and is no longer then.
  Plain facts: what is read may be written down; it is no longer then.
-/
import Derived.Test.YtihmfdmojnfdpaaNf
section
namespace Go.Proofs.Ytihmfdmojnfdpaa
open Go Go.Sim
set_option maxRecDepth 100000
set_option linter.unusedSimpArgs false
set_option linter.unusedVariables false

theorem GrowByte (n : Nat) (hn : 0 < n) (hn' : n < 2 ^ 40) (B : List Blk) (r : Heap) : callV E (om E) 54 [.nilslice, ii n] (B :: r) =
    some (.sref 0 B.length 0 0 0 (1, false), (B ++ [.row (cat eU8 (List.replicate n 0)) 0 1 true true]) :: r) := by
  rw [call_54]
  have key : bodyV E (om E) 54 (V.upL 1 [.nilslice, ii n]) ([] :: B :: r) = some (.sref 0 0 0 0 0 (1, false), [.row (cat eU8 (List.replicate n 0)) 0 1 true true] :: B :: r) := by
    apply bo_54
    simp (disch := omega) [if_pos, if_neg, iteK_pos, iteK_neg, Try.f54, hn]
    rw [append_zeros (elem := 5) (k := 1) (kk := .i64) (z := .int .u8 0) (by_ := 1) (by simp) (by simp) (by simp) (by simp) (by simp) (by omega) (by simp) (by omega),
      show rep (V.cells (.int .u8 0)) (n : Int).toNat = cat eU8 (List.replicate n 0) from rep_cat eU8 0 n]
    simp (disch := omega) [if_pos, if_neg, iteK_pos, iteK_neg]
  rw [key]
  simp (disch := omega) [if_pos, if_neg, iteK_pos, iteK_neg]
theorem Concat2_body (a b : List UInt8) (ha : a.length < 2 ^ 30) (hb : b.length < 2 ^ 30) (hs : 0 < a.length + b.length) : bodyV E (om E) 35 [.scon [bs a, bs b] 0 2 false] [[]] = some (.sref 0 0 0 (a.length + b.length) 2 (1, false), [[.row (cat eU8 (a ++ b)) 2 1 true true]]) := by
  apply bo_35
  simp (disch := omega) [if_pos, if_neg, iteK_pos, iteK_neg, Try.f35]
  iterate 3
    apply loop_next (dyn := []) hint_35_0 (by kernel_rfl)
    simp (disch := omega) [if_pos, if_neg, iteK_pos, iteK_neg]
    rw [lpB_eq]
    simp (disch := omega) [if_pos, if_neg, iteK_pos, iteK_neg]
  rw [show (a.length : Int) + b.length = ((a.length + b.length : Nat) : Int) by omega, GrowByte _ hs (by omega)]
  simp (disch := omega) [if_pos, if_neg, iteK_pos, iteK_neg]
  iterate 3
    apply loop_next (dyn := []) hint_35_1 (by kernel_rfl)
    simp (disch := omega) [if_pos, if_neg, iteK_pos, iteK_neg]
    rw [lpB_eq]
    simp (disch := omega) [if_pos, if_neg, iteK_pos, iteK_neg]
  exact (cat_append eU8 a b).symm
theorem Concat4_body (a b c d : List UInt8) (ha : a.length < 2 ^ 30) (hb : b.length < 2 ^ 30) (hc : c.length < 2 ^ 30) (hd : d.length < 2 ^ 30) (hs : 0 < a.length + b.length + c.length + d.length) : bodyV E (om E) 35 [.scon [bs a, bs b, bs c, bs d] 0 4 false] [[]] = some (.sref 0 0 0 (a.length + b.length + c.length + d.length) 4 (1, false), [[.row (cat eU8 (a ++ b ++ c ++ d)) 4 1 true true]]) := by
  apply bo_35
  simp (disch := omega) [if_pos, if_neg, iteK_pos, iteK_neg, Try.f35]
  iterate 5
    apply loop_next (dyn := []) hint_35_0 (by kernel_rfl)
    simp (disch := omega) [if_pos, if_neg, iteK_pos, iteK_neg]
    rw [lpB_eq]
    simp (disch := omega) [if_pos, if_neg, iteK_pos, iteK_neg]
  rw [show (a.length : Int) + b.length + c.length + d.length = ((a.length + b.length + c.length + d.length : Nat) : Int) by omega, GrowByte _ hs (by omega)]
  simp (disch := omega) [if_pos, if_neg, iteK_pos, iteK_neg]
  iterate 5
    apply loop_next (dyn := []) hint_35_1 (by kernel_rfl)
    simp (disch := omega) [if_pos, if_neg, iteK_pos, iteK_neg]
    rw [lpB_eq]
    simp (disch := omega) [if_pos, if_neg, iteK_pos, iteK_neg]
  simp only [cat_append, List.append_assoc]
  rw [List.take_of_length_le (by simp), List.take_of_length_le (by simp)]
  simp
theorem Concat2_at {s : V} {a b : List UInt8} {B : List Blk} {r : Heap} (hv : viewArgs (B :: r) [s] = some [.scon [bs a, bs b] 0 2 false]) (ha : a.length < 2 ^ 30) (hb : b.length < 2 ^ 30) (hs : 0 < a.length + b.length) :
    callV E (om E) 35 [s] (B :: r) = some (.sref 0 B.length 0 (a.length + b.length) 2 (1, false), (B ++ [.row (cat eU8 (a ++ b)) 2 1 true true]) :: r) := by
  rw [call_35, hv]
  simp (disch := omega) [if_pos, if_neg, iteK_pos, iteK_neg, Concat2_body a b ha hb hs]
theorem Concat4_at {s : V} {a b c d : List UInt8} {B : List Blk} {r : Heap} (hv : viewArgs (B :: r) [s] = some [.scon [bs a, bs b, bs c, bs d] 0 4 false]) (ha : a.length < 2 ^ 30) (hb : b.length < 2 ^ 30) (hc : c.length < 2 ^ 30) (hd : d.length < 2 ^ 30) (hs : 0 < a.length + b.length + c.length + d.length) :
    callV E (om E) 35 [s] (B :: r) = some (.sref 0 B.length 0 (a.length + b.length + c.length + d.length) 4 (1, false), (B ++ [.row (cat eU8 (a ++ b ++ c ++ d)) 4 1 true true]) :: r) := by
  rw [call_35, hv]
  simp (disch := omega) [if_pos, if_neg, iteK_pos, iteK_neg, Concat4_body a b c d ha hb hc hd hs]

/-! ### isa.Encode -/
noncomputable def encOne (i : Instr) : List UInt8 := i.op :: (bytes4 i.arg).take (rowOf i.op.toNat).width
noncomputable def encI (l : List Instr) : List UInt8 := l.flatMap encOne
theorem encOne_len (i : Instr) : (encOne i).length = 1 + (rowOf i.op.toNat).width := by
  have := (rowOf_some i.op).1
  simp [encOne]; omega
theorem encI_len (l : List Instr) : (encI l).length ≤ 5 * l.length := by
  induction l with
  | nil => simp [encI]
  | cons x l ih =>
    have := encOne_len x
    have := (rowOf_some x.op).1
    simp only [encI, List.flatMap_cons, List.length_append, List.length_cons] at ih ⊢
    omega
theorem IsaEncode (lent) (code : List Instr) (h : code.length ≤ 16384) (hb : ∀ i ∈ code, insBad i = 0) : pureV E (om E) 34 lent [lst eInstr code] = some (.tuple [bs (encI code), ii 0, ii 0]) := by
  apply pu_34
  have hput : ∀ lent (x : UInt32), pureV E (om E) 36 lent [.scon [w32 x.toNat] 0 1 false] = some (bs (bytes4 x)) := fun lent x => by
    have := Put32 lent [x] (by simp)
    rw [show words [x] = bytes4 x by simp [words]] at this
    exact this
  have hput2 : ∀ lent (x : UInt32), pureV E (om E) 36 lent [.scon (V.canonL (cutCells [w32 x.toNat] 0 1 1)) 0 1 false] = some (bs (bytes4 x)) := fun lent x => hput lent x
  simp (disch := omega) [if_pos, if_neg, iteK_pos, iteK_neg, Try.f34]
  refine loop_use (dyn := [11]) (fun (a : Nat × Nat) => [lst eInstr code, xx, xx, xx, xx, .sref 0 0 0 (encI (code.take a.1)).length a.2 (1, false), xx, xx, xx, lst eInstr code, ii code.length, bb (decide ((16384 : Int) < code.length)), lst eInstr code, ii code.length, ii a.1] ++ pois 27)
    (fun a => [[.row (cat eU8 (encI (code.take a.1))) a.2 1 true true]]) (fun a => a.1 ≤ code.length) (fun a => code.length - a.1) hint_34_0 (by kernel_rfl) ?_ (0, 0) (by simp) (by simp [encI])
  rintro ⟨i, e⟩ hi IH
  rw [lpB_eq]
  dsimp only at hi ⊢
  have hl := encI_len (code.take i)
  have hle : (code.take i).length = i := by simp; omega
  by_cases hlt : i < code.length
  · have hbi : insBad code[i] = 0 := hb _ (List.getElem_mem hlt)
    have hw := (rowOf_some code[i].op).1
    simp (disch := omega) [if_pos, if_neg, iteK_pos, iteK_neg, hlt, IsaCheck, IsaSize, hbi, hput2]
    rw [iteK_pos (by kernel_rfl)]
    simp (disch := omega) [if_pos, if_neg, iteK_pos, iteK_neg, hlt, IsaCheck, IsaSize, hbi, hput2]
    have e1 : (1 + ((rowOf code[i].op.toNat).width : Int)).toNat - 1 = (rowOf code[i].op.toNat).width := by omega
    have hnew : encI (code.take (i + 1)) = encI (code.take i) ++ (code[i].op :: (bytes4 code[i].arg).take (rowOf code[i].op.toNat).width) := by
      rw [take_snoc hlt]; unfold encI; rw [List.flatMap_append, List.flatMap_singleton]; rfl
    have hlen : (encI (code.take (i + 1))).length = (encI (code.take i)).length + 1 + (rowOf code[i].op.toNat).width := by
      rw [hnew]; simp; omega
    have hrow : cat eU8 (encI (code.take i)) ++ [V.int .u8 (code[i].op.toNat : Int)] ++ cat eU8 ((bytes4 code[i].arg).take (rowOf code[i].op.toNat).width) = cat eU8 (encI (code.take (i + 1))) := by
      rw [hnew, cat_append, List.append_assoc]; rfl
    rw [e1, List.take_of_length_le (l := cat eU8 (encI (code.take i)) ++ _) (by simp), List.take_take, Nat.min_self, hrow]
    exact IH (i + 1, e + 2) _ _ (by simp only; omega) (by simp only; omega) (by simp [hlen])
  · simp (disch := omega) [if_pos, if_neg, iteK_pos, iteK_neg, hlt]
    rw [List.take_of_length_le (by omega)]
end Go.Proofs.Ytihmfdmojnfdpaa
end
section
namespace Go.Proofs.Ytihmfdmojnfdpaa
open Go Go.Sim
set_option maxRecDepth 100000
set_option linter.unusedSimpArgs false
set_option linter.unusedVariables false

theorem room63 (lent) (d : Nat) (z s : UInt32) (hd : d < 2 ^ 63) : pureV E (om E) 29 lent [ii d, w32 z.toNat, w32 s.toNat] = some (w64 (d + z.toNat + s.toNat)) := by
  apply pu_29
  have := z.toNat_lt; have := s.toNat_lt
  simp (disch := omega) [if_pos, if_neg, iteK_pos, iteK_neg, Try.f29]
/-- The fault of the first instruction at fault, from one on. -/
noncomputable def codeFrom (l : List Instr) (k : Nat) : Nat := if h : k < l.length then (if insBad l[k] ≠ 0 then insBad l[k] else codeFrom l (k + 1)) else 0
termination_by l.length - k
/-- May all names stand where they do, from one on? -/
def namesFrom (l : List Export) (k : Nat) : Bool := if k < l.length then nameOk l k && namesFrom l (k + 1) else true
termination_by l.length - k
noncomputable def checkP (x : Img) : Nat :=
  if 16384 < x.code.length then 73 else if codeFrom x.code 0 ≠ 0 then codeFrom x.code 0 else if 16384 < x.jumps.length then 86
  else if stackOk x.stack = false then 85 else if 65536 < x.data.length + x.zero.toNat + x.stack.toNat then 85
  else if 64 < x.names.length then 87 else if namesFrom x.names 0 = false then 87 else 0
abbrev chkL (x : Img) (i : Nat) (r : List V) : List V := imgV x :: .pref 0 0 0 0 :: xx :: xx :: xx :: xx :: xx :: .pref 0 0 0 0 :: lst eInstr x.code :: ii x.code.length :: bb (decide ((16384 : Int) < x.code.length)) :: .pref 0 0 0 0 :: lst eInstr x.code :: ii x.code.length :: ii i :: r
abbrev chkH (x : Img) : Heap := [[.row [lst eInstr x.code, ws x.jumps, bs x.data, w32 x.zero.toNat, w32 x.stack.toNat, lst eExport x.names] 0 6 true false]]
set_option maxHeartbeats 2000000 in
theorem ImageCheck (lent) (x : Img) (h1 : x.code.length < 2 ^ 63) (h2 : x.jumps.length < 2 ^ 63) (h3 : x.data.length < 2 ^ 63) (h4 : x.names.length < 2 ^ 63) : pureV E (om E) 15 lent [imgV x] = some (ii (checkP x)) := by
  apply pu_15
  by_cases c1 : 16384 < x.code.length
  · simp (disch := omega) [if_pos, if_neg, iteK_pos, iteK_neg, Try.f15, c1, checkP]
  simp (disch := omega) [if_pos, if_neg, iteK_pos, iteK_neg, Try.f15, c1]
  refine loop_use (dyn := []) (fun (i : Nat) => chkL x i (pois 44)) (fun _ => chkH x) (fun i => i ≤ x.code.length ∧ codeFrom x.code 0 = codeFrom x.code i) (fun i => x.code.length - i) hint_15_0 (by kernel_rfl) ?_ 0 (by simp) (by simp [chkL, chkH])
  rintro i ⟨hi, hcf⟩ IH
  rw [lpB_eq]
  by_cases hlt : i < x.code.length
  · have hst : codeFrom x.code i = if insBad x.code[i] ≠ 0 then insBad x.code[i] else codeFrom x.code (i + 1) := by rw [codeFrom, dif_pos hlt]
    rw [hst] at hcf
    by_cases hb : insBad x.code[i] = 0
    · rw [if_neg (by simp [hb])] at hcf
      simp (disch := omega) [if_pos, if_neg, iteK_pos, iteK_neg, hlt, IsaCheck, hb]
      exact IH (i + 1) _ _ ⟨by omega, hcf⟩ (by omega) (by simp [chkL, chkH])
    · rw [if_pos hb] at hcf
      have : checkP x = insBad x.code[i] := by unfold checkP; rw [if_neg c1, if_pos (by rw [hcf]; exact hb), hcf]
      rw [this]
      simp (disch := omega) [if_pos, if_neg, iteK_pos, iteK_neg, hlt, IsaCheck, hb]
  · have hS : ∀ lent, pureV E (om E) 28 lent [w32 x.stack.toNat] = some (bb (stackOk x.stack)) := fun lent => stackMay lent _
    have hst : codeFrom x.code i = 0 := by rw [codeFrom, dif_neg hlt]
    rw [hst] at hcf
    clear IH
    by_cases c2 : 16384 < x.jumps.length
    · simp (disch := omega) [if_pos, if_neg, iteK_pos, iteK_neg, hlt, c1, hcf, c2, checkP]
    by_cases c3 : stackOk x.stack = false
    · simp (disch := omega) [if_pos, if_neg, iteK_pos, iteK_neg, hlt, c1, hcf, c2, c3, checkP, hS]
    replace c3 : stackOk x.stack = true := by simpa using c3
    by_cases c4 : 65536 < x.data.length + x.zero.toNat + x.stack.toNat
    · simp (disch := omega) [if_pos, if_neg, iteK_pos, iteK_neg, hlt, c1, hcf, c2, c3, c4, checkP, hS, room63]
    by_cases c5 : 64 < x.names.length
    · simp (disch := omega) [if_pos, if_neg, iteK_pos, iteK_neg, hlt, c1, hcf, c2, c3, c4, c5, checkP, hS, room63]
    simp (disch := omega) [if_pos, if_neg, iteK_pos, iteK_neg, hlt, c1, hcf, c2, c3, c4, c5, checkP, hS, room63]
    have hNm := fun lent j hj => nameMay lent x.names j hj (by omega)
    obtain rfl : i = x.code.length := by omega
    refine loop_use (dyn := []) (fun (j : Nat) => chkL x x.code.length (bb false :: xx :: xx :: xx :: xx :: xx :: xx :: xx :: xx :: .pref 0 0 1 0 :: ws x.jumps :: ii x.jumps.length :: bb (decide ((16384 : Int) < x.jumps.length)) :: .pref 0 0 4 0 :: w32 x.stack.toNat :: bb true :: bb false ::
        bb false :: .pref 0 0 2 0 :: bs x.data :: ii x.data.length :: .pref 0 0 3 0 :: w32 x.zero.toNat :: .pref 0 0 4 0 :: w32 x.stack.toNat :: w64 (x.data.length + x.zero.toNat + x.stack.toNat) :: bb (decide ((65536 : Int) < x.data.length + x.zero.toNat + x.stack.toNat)) ::
        bb (decide ((65536 : Int) < x.data.length + x.zero.toNat + x.stack.toNat)) :: .pref 0 0 5 0 :: lst eExport x.names :: ii x.names.length :: bb (decide ((64 : Int) < x.names.length)) :: .pref 0 0 5 0 :: lst eExport x.names :: ii x.names.length :: ii j :: pois 8))
      (fun _ => chkH x) (fun j => j ≤ x.names.length ∧ namesFrom x.names 0 = namesFrom x.names j) (fun j => x.names.length - j) hint_15_1 (by kernel_rfl) ?_ 0 (by simp) (by simp [chkL, chkH])
    rintro j ⟨hj, hn⟩ IH
    rw [lpB_eq]
    by_cases hjl : j < x.names.length
    · have hst : namesFrom x.names j = (nameOk x.names j && namesFrom x.names (j + 1)) := by rw [namesFrom, if_pos hjl]
      rw [hst] at hn
      by_cases hok : nameOk x.names j = true
      · rw [hok, Bool.true_and] at hn
        simp (disch := omega) [if_pos, if_neg, iteK_pos, iteK_neg, hjl, hNm, hok]
        exact IH (j + 1) _ _ ⟨by omega, hn⟩ (by omega) (by simp [chkL, chkH])
      · have hok' : nameOk x.names j = false := by simpa using hok
        rw [hok', Bool.false_and] at hn
        simp (disch := omega) [if_pos, if_neg, iteK_pos, iteK_neg, hjl, hNm, hok', hn]
    · have hst : namesFrom x.names j = true := by rw [namesFrom, if_neg hjl]
      rw [hst] at hn
      simp (disch := omega) [if_pos, if_neg, iteK_pos, iteK_neg, hjl, hn]
end Go.Proofs.Ytihmfdmojnfdpaa
end
section
namespace Go.Proofs.Ytihmfdmojnfdpaa
open Go Go.Sim
set_option maxRecDepth 100000
set_option linter.unusedSimpArgs false
set_option linter.unusedVariables false

theorem check_ok {x : Img} (h : checkP x = 0) : x.code.length ≤ 16384 ∧ codeFrom x.code 0 = 0 ∧ x.jumps.length ≤ 16384 ∧ stackOk x.stack = true ∧ x.data.length + x.zero.toNat + x.stack.toNat ≤ 65536 ∧ x.names.length ≤ 64 ∧ namesFrom x.names 0 = true := by
  unfold checkP at h
  by_cases c1 : 16384 < x.code.length
  · simp [c1] at h
  rw [if_neg c1] at h
  by_cases c2 : codeFrom x.code 0 ≠ 0
  · rw [if_pos c2] at h; exact absurd h c2
  rw [if_neg c2] at h
  by_cases c3 : 16384 < x.jumps.length
  · simp [c3] at h
  rw [if_neg c3] at h
  by_cases c4 : stackOk x.stack = false
  · simp [c4] at h
  rw [if_neg c4] at h
  by_cases c5 : 65536 < x.data.length + x.zero.toNat + x.stack.toNat
  · simp [c5] at h
  rw [if_neg c5] at h
  by_cases c6 : 64 < x.names.length
  · simp [c6] at h
  rw [if_neg c6] at h
  by_cases c7 : namesFrom x.names 0 = false
  · simp [c7] at h
  exact ⟨by omega, by simpa using c2, by omega, by simpa using c4, by omega, by omega, by simpa using c7⟩
theorem code_good {l : List Instr} {k : Nat} (h : codeFrom l k = 0) : ∀ j, k ≤ j → (hj : j < l.length) → insBad l[j] = 0 := by
  intro j hkj hj
  rw [codeFrom, dif_pos (by omega)] at h
  by_cases hb : insBad l[k] ≠ 0
  · rw [if_pos hb] at h; exact absurd h hb
  · rw [if_neg hb] at h
    by_cases hq : k = j
    · subst hq; simpa using hb
    · exact code_good h j (by omega) hj
termination_by l.length - k
theorem code_all {x : Img} (h : checkP x = 0) : ∀ i ∈ x.code, insBad i = 0 := by
  intro i hi
  obtain ⟨j, hj, rfl⟩ := List.mem_iff_getElem.1 hi
  exact code_good (check_ok h).2.1 j (Nat.zero_le j) hj
theorem names_good {l : List Export} {k : Nat} (h : namesFrom l k = true) : ∀ j, k ≤ j → j < l.length → nameOk l j = true := by
  intro j hkj hj
  rw [namesFrom, if_pos (by omega), Bool.and_eq_true] at h
  by_cases hq : k = j
  · subst hq; exact h.1
  · exact names_good h.2 j (by omega) hj
termination_by l.length - k
theorem name_len {l : List Export} {j : Nat} (hj : j < l.length) (h : nameOk l j = true) : 1 ≤ l[j].name.length ∧ l[j].name.length ≤ 32 := by
  unfold nameOk at h
  rw [List.getElem?_eq_getElem hj] at h
  simp only [Bool.and_eq_true, decide_eq_true_eq] at h
  exact h.1
/-- A name's bytes. -/
def nameB (n : Export) : List UInt8 := bytes4 n.place ++ [UInt8.ofNat n.name.length] ++ n.name
def namesB (l : List Export) : List UInt8 := l.flatMap nameB
theorem namesB_len {l : List Export} (h : ∀ n ∈ l, n.name.length ≤ 32) : (namesB l).length ≤ 37 * l.length := by
  induction l with
  | nil => simp [namesB]
  | cons x l ih =>
    have := ih fun n hn => h n (by simp [hn])
    have := h x (by simp)
    have e : (nameB x).length = 5 + x.name.length := by simp [nameB]; omega
    simp only [namesB, List.flatMap_cons, List.length_append, List.length_cons] at *
    omega
theorem PutN (lent) (l : List Nat) (h : ∀ n ∈ l, n < 4294967296) (hl : l.length < 2 ^ 20) : pureV E (om E) 36 lent [.scon (l.map fun n : Nat => V.int .u32 (n : Int)) 0 l.length false] = some (bs (words (l.map UInt32.ofNat))) := by
  have := Put32 lent (l.map UInt32.ofNat) (by simp; omega)
  have e : ws (l.map UInt32.ofNat) = .scon (l.map fun n : Nat => V.int .u32 (n : Int)) 0 l.length false := by
    have hc : cat eU32 (l.map UInt32.ofNat) = l.map fun n : Nat => V.int .u32 (n : Int) := by
      clear this hl
      induction l with
      | nil => rfl
      | cons x l ih =>
        have := h x (by simp)
        rw [List.map_cons, List.map_cons, ← ih fun n hn => h n (by simp [hn]), cat_cons]
        show w32 (UInt32.ofNat x).toNat :: _ = _
        rw [UInt32.toNat_ofNat', Nat.mod_eq_of_lt this]
        rfl
    show V.scon (cat eU32 _) 0 (l.map UInt32.ofNat).length false = _
    rw [hc, List.length_map]
  rw [e] at this
  exact this
theorem layFrom_cons {p : Nat} {n : UInt32} {r : List UInt32} (h : p + n.toNat ≤ 4294967295) : layFrom p (n :: r) = (layFrom (p + n.toNat) r).map fun l => ⟨UInt32.ofNat p, n⟩ :: l := by
  rw [layFrom, if_neg (by omega)]
/-- Where the four segments lie. -/
def encS (a b c d : Nat) : List Span := [⟨UInt32.ofNat 64, UInt32.ofNat a⟩, ⟨UInt32.ofNat (64 + a), UInt32.ofNat b⟩, ⟨UInt32.ofNat (64 + a + b), UInt32.ofNat c⟩, ⟨UInt32.ofNat (64 + a + b + c), UInt32.ofNat d⟩]
theorem LayN (lent) (a b c d : Nat) (h : a + b + c + d < 2 ^ 30) : pureV E (om E) 38 lent [.int .u32 64, .scon (V.canonL (cutCells [.int .u32 (a : Int), .int .u32 (b : Int), .int .u32 (c : Int), .int .u32 (d : Int)] 0 4 1)) 0 4 false] =
    some (.tuple [.scon [.int .u32 64, .int .u32 (a : Int), .int .u32 ((64 + a : Nat) : Int), .int .u32 (b : Int), .int .u32 ((64 + a + b : Nat) : Int), .int .u32 (c : Int), .int .u32 ((64 + a + b + c : Nat) : Int), .int .u32 (d : Int)] 0 4 false, ii 0]) := by
  have e : ∀ n : Nat, n < 2 ^ 31 → (UInt32.ofNat n).toNat = n := fun n hn => by rw [UInt32.toNat_ofNat', Nat.mod_eq_of_lt (by omega)]
  have := Lay lent 64 [UInt32.ofNat a, UInt32.ofNat b, UInt32.ofNat c, UInt32.ofNat d] (by simp)
  have h64 : (64 : UInt32).toNat = 64 := rfl
  rw [h64, layFrom_cons (by rw [e a (by omega)]; omega), e a (by omega), layFrom_cons (by rw [e b (by omega)]; omega), e b (by omega), layFrom_cons (by rw [e c (by omega)]; omega), e c (by omega), layFrom_cons (by rw [e d (by omega)]; omega), layFrom] at this
  have hw : ws [UInt32.ofNat a, UInt32.ofNat b, UInt32.ofNat c, UInt32.ofNat d] = .scon (V.canonL (cutCells [.int .u32 (a : Int), .int .u32 (b : Int), .int .u32 (c : Int), .int .u32 (d : Int)] 0 4 1)) 0 4 false := by
    show V.scon [w32 (UInt32.ofNat a).toNat, w32 (UInt32.ofNat b).toNat, w32 (UInt32.ofNat c).toNat, w32 (UInt32.ofNat d).toNat] 0 4 false = V.scon [_, _, _, _] 0 4 false
    rw [e a (by omega), e b (by omega), e c (by omega), e d (by omega)]
    rfl
  rw [hw] at this
  refine this.trans ?_
  show some (V.tuple [.scon [w32 (UInt32.ofNat 64).toNat, w32 (UInt32.ofNat a).toNat, w32 (UInt32.ofNat (64 + a)).toNat, w32 (UInt32.ofNat b).toNat, w32 (UInt32.ofNat (64 + a + b)).toNat, w32 (UInt32.ofNat c).toNat, w32 (UInt32.ofNat (64 + a + b + c)).toNat, w32 (UInt32.ofNat d).toNat] 0 4 false, ii 0]) = _
  rw [e a (by omega), e b (by omega), e c (by omega), e d (by omega), e (64 + a) (by omega), e (64 + a + b) (by omega), e (64 + a + b + c) (by omega)]
  rfl
theorem conv22 (h : Heap) (d j o l ep : Nat) (q : Nat × Bool) : convertV Try.prog h 22 22 (.sref d j o l ep q) = match h.get d j with | some (.row cells ep' esz fl pl) => if ep = ep' ∧ 0 < l then some (.sref d j o l ep q, h.set d j (.row cells ep' esz fl pl)) else none | _ => none := by
  simp only [convertV, Try.underlying22, Try.underlying5]
  cases h.get d j with
  | none => rfl
  | some b => cases b <;> simp
theorem putP (lent) (a b : Int) (ha : 0 ≤ a ∧ a < 4294967296) (hb : 0 ≤ b ∧ b < 4294967296) : pureV E (om E) 36 lent [.scon (V.canonL (cutCells [.int .u32 a, .int .u32 b] 0 2 1)) 0 2 false] = some (bs (words [UInt32.ofNat a.toNat, UInt32.ofNat b.toNat])) := by
  obtain ⟨a, rfl⟩ := Int.eq_ofNat_of_zero_le ha.1
  obtain ⟨b, rfl⟩ := Int.eq_ofNat_of_zero_le hb.1
  exact PutN lent [a, b] (by simp; omega) (by simp)
theorem putT3 (lent) (n : Nat) (hn : n < 4294967296) : pureV E (om E) 36 lent [.scon (V.canonL (cutCells [.int .u32 1, .int .u32 0, .int .u32 (n : Int)] 0 3 1)) 0 3 false] = some (bs (words [1, 0, UInt32.ofNat n])) :=
  PutN lent [1, 0, n] (by simp; omega) (by simp)
theorem putT4 (lent) (a b : UInt32) : pureV E (om E) 36 lent [.scon (V.canonL (cutCells [.int .u32 (a.toNat : Int), .int .u32 (b.toNat : Int), .int .u32 0, .int .u32 0] 0 4 1)) 0 4 false] = some (bs (words [a, b, 0, 0])) := by
  have := PutN lent [a.toNat, b.toNat, 0, 0] (by have := a.toNat_lt; have := b.toNat_lt; simp; omega) (by simp)
  rw [show List.map UInt32.ofNat [a.toNat, b.toNat, 0, 0] = [a, b, 0, 0] by simp] at this
  exact this
theorem canon8 (l : List UInt8) : V.canon (lst eU8 l) = lst eU8 l := by simp
theorem sealed_at {s : V} {l : List UInt8} {B : List Blk} {r : Heap} (hv : viewArgs (B :: r) [s] = some [bs l]) (hl : l.length < 2 ^ 40) (h : 64 ≤ l.length) : callV E (om E) 32 [s] (B :: r) = some (.sref 0 (B.length + 3) 0 l.length 0 (1, false), (B ++ [.row [] 0 1 true true, .row (cat eU8 (with4 l 8 0)) 0 1 true true, .row [] 0 1 true true, .row (cat eU8 (sealP l)) 0 1 true true]) :: r) := by
  rw [call_32, hv]
  have := sealed_body l hl h
  simp (disch := omega) [if_pos, if_neg, iteK_pos, iteK_neg, this, sealP]
noncomputable abbrev encL (x : Img) (nm : V) (i : Nat) (r : List V) : List V := imgV x :: .pref 0 0 0 0 :: .nilslice :: ii 0 :: ii 0 :: bs (encI x.code) :: ii 0 :: ii 0 :: nm :: xx :: xx :: xx :: xx :: xx :: xx :: xx :: xx :: xx :: xx :: xx :: xx ::
  imgV x :: ii 0 :: ii 0 :: bb false :: xx :: .tuple [bs (encI x.code), ii 0, ii 0] :: .pref 0 0 0 0 :: lst eInstr x.code :: .tuple [bs (encI x.code), ii 0, ii 0] :: bs (encI x.code) :: ii 0 :: ii 0 :: ii 0 :: bb false :: xx :: .pref 0 0 5 0 ::
  lst eExport x.names :: ii x.names.length :: ii i :: r
/-- The file ahead of its sum. -/
noncomputable def encF (x : Img) : List UInt8 := [80, 69, 78, 33] ++ words [1, 0, UInt32.ofNat x.code.length] ++ words [64, UInt32.ofNat (encI x.code).length] ++ words [UInt32.ofNat (64 + (encI x.code).length), UInt32.ofNat (words x.jumps).length] ++
  words [UInt32.ofNat (64 + (encI x.code).length + (words x.jumps).length), UInt32.ofNat x.data.length] ++ words [UInt32.ofNat (64 + (encI x.code).length + (words x.jumps).length + x.data.length), UInt32.ofNat (namesB x.names).length] ++
  words [x.zero, x.stack, 0, 0] ++ encI x.code ++ words x.jumps ++ x.data ++ namesB x.names
noncomputable def encP (x : Img) : List UInt8 := sealP (encF x)
end Go.Proofs.Ytihmfdmojnfdpaa
end
section
namespace Go.Proofs.Ytihmfdmojnfdpaa
open Go Go.Sim
set_option linter.unusedSimpArgs false
set_option linter.unusedVariables false

theorem wordsOf_words : ∀ l : List UInt32, wordsOf (words l) = l
  | [] => rfl
  | x :: r => by
    show word4 _ _ _ _ :: wordsOf (words r) = _
    rw [word4_bytes, wordsOf_words r]
theorem bytes4_word4 (a b c d : UInt8) : bytes4 (word4 a b c d) = [a, b, c, d] := by
  have := a.toNat_lt; have := b.toNat_lt; have := c.toNat_lt; have := d.toNat_lt
  have h := word4_toNat a b c d
  unfold bytes4
  rw [h]
  have e : ∀ (n : Nat) (x : UInt8), n = x.toNat → UInt8.ofNat n = x := fun n x h => by rw [h]; simp
  congr 1
  · exact e _ _ (by omega)
  congr 1
  · exact e _ _ (by omega)
  congr 1
  · exact e _ _ (by omega)
  congr 1
  exact e _ _ (by omega)
theorem words_wordsOf : ∀ l : List UInt8, l.length % 4 = 0 → words (wordsOf l) = l
  | [], _ => rfl
  | [_], h => by simp at h
  | [_, _], h => by simp at h
  | [_, _, _], h => by simp at h
  | a :: b :: c :: d :: r, h => by
    have h' : r.length % 4 = 0 := by simp at h; omega
    show bytes4 (word4 a b c d) ++ words (wordsOf r) = _
    rw [bytes4_word4, words_wordsOf r h']
    rfl
/-- A word that stands behind so many bytes. -/
theorem word_at {p s : List UInt8} {x : UInt32} {n : Nat} (h : p.length = n) : wordAt (p ++ bytes4 x ++ s) n = x := by
  subst h
  unfold wordAt
  rw [List.append_assoc, List.drop_left]
  exact word4_bytes x
/-! ### Instructions -/
theorem readI_enc {p s : List UInt8} {i : Instr} (h : insBad i = 0) : readI (p ++ encOne i ++ s) p.length = .ok (i, (encOne i).length) := by
  obtain ⟨hw, hm, hpw⟩ := rowOf_some i.op
  unfold insBad at h
  have hop : isOp i.op.toNat = true := by
    by_cases hq : isOp i.op.toNat = true
    · exact hq
    · rw [if_neg hq] at h; cases h
  rw [if_pos hop] at h
  have hmost : i.arg.toNat ≤ (rowOf i.op.toNat).most := by
    by_cases hq : (rowOf i.op.toNat).most < i.arg.toNat
    · rw [if_pos hq] at h; cases h
    · omega
  have g0 : (p ++ encOne i ++ s).getD p.length 0 = i.op := by
    rw [List.append_assoc, List.getD, List.getElem?_append_right (Nat.le_refl _), Nat.sub_self]; rfl
  have gk : ∀ k, k < (rowOf i.op.toNat).width → (p ++ encOne i ++ s).getD (p.length + (k + 1)) 0 = (bytes4 i.arg).getD k 0 := by
    intro k hk
    rw [List.append_assoc, List.getD, List.getElem?_append_right (by omega), show p.length + (k + 1) - p.length = k + 1 by omega]
    unfold encOne
    rw [List.cons_append, List.getElem?_cons_succ, List.getElem?_append_left (by simp; omega), List.getElem?_take_of_lt hk]
    rfl
  have hlen := encOne_len i
  have hal := i.arg.toNat_lt
  unfold readI
  rw [g0]
  simp only [hop, if_true]
  rw [if_neg (by simp [hlen]; omega)]
  have harg : argUp (p ++ encOne i ++ s) p.length (rowOf i.op.toNat).width 0 = i.arg.toNat := by
    have b0 : ((bytes4 i.arg).getD 0 0).toNat = i.arg.toNat % 256 := by simp [bytes4, List.getD]
    have b1 : ((bytes4 i.arg).getD 1 0).toNat = i.arg.toNat / 256 % 256 := by simp [bytes4, List.getD]
    have b2 : ((bytes4 i.arg).getD 2 0).toNat = i.arg.toNat / 65536 % 256 := by simp [bytes4, List.getD]
    have b3 : ((bytes4 i.arg).getD 3 0).toNat = i.arg.toNat / 16777216 % 256 := by simp [bytes4, List.getD]
    generalize (rowOf i.op.toNat).width = w at gk hw hpw
    have hw5 : w = 0 ∨ w = 1 ∨ w = 2 ∨ w = 3 ∨ w = 4 := by omega
    rcases hw5 with rfl | rfl | rfl | rfl | rfl
    · simp only [argUp]; simp at hpw; omega
    · have e0 := gk 0 (by omega)
      simp only [argUp, e0, b0]; simp at hpw; omega
    · have e0 := gk 0 (by omega); have e1 := gk 1 (by omega)
      simp only [argUp, e0, e1, b0, b1]; simp at hpw; omega
    · have e0 := gk 0 (by omega); have e1 := gk 1 (by omega); have e2 := gk 2 (by omega)
      simp only [argUp, e0, e1, e2, b0, b1, b2]; simp at hpw; omega
    · have e0 := gk 0 (by omega); have e1 := gk 1 (by omega); have e2 := gk 2 (by omega); have e3 := gk 3 (by omega)
      simp only [argUp, e0, e1, e2, e3, b0, b1, b2, b3]; omega
  rw [harg, if_neg (by omega), hlen, UInt32.ofNat_toNat]
theorem decI_enc : ∀ (l : List Instr) (p : List UInt8) (n : Nat), n + l.length ≤ 16384 → (∀ i ∈ l, insBad i = 0) → decI (p ++ encI l) p.length n = (l, 0, 0)
  | [], p, n, _, _ => by
    rw [decI, if_neg (by simp [encI])]
  | i :: l, p, n, hn, hb => by
    have e : encI (i :: l) = encOne i ++ encI l := by simp [encI]
    have hlen := encOne_len i
    simp only [List.length_cons] at hn
    rw [decI, e, if_pos (by simp; omega), if_pos (by omega), ← List.append_assoc, readI_enc (hb i (by simp))]
    have := decI_enc l (p ++ encOne i) (n + 1) (by omega) fun j hj => hb j (by simp [hj])
    rw [List.length_append] at this
    simp only [this]
/-! ### Names -/
theorem nameOk_prefix {a b : List Export} {j : Nat} (hj : j < a.length) : nameOk (a ++ b) j = nameOk a j := by
  unfold nameOk
  rw [List.getElem?_append_left hj, List.getElem?_append_left (show j - 1 < a.length by omega)]
theorem expP_enc : ∀ (l : List Export) (p : List UInt8) (acc : List Export), acc.length + l.length ≤ 64 → (∀ j, acc.length ≤ j → j < acc.length + l.length → nameOk (acc ++ l) j = true) → expP (p ++ namesB l) p.length acc = (acc ++ l, 0, 0)
  | [], p, acc, _, _ => by
    rw [expP, if_neg (by simp [namesB])]; simp
  | x :: l, p, acc, hn, hok => by
    have e : namesB (x :: l) = nameB x ++ namesB l := by simp [namesB]
    simp only [List.length_cons] at hn hok
    have h0 := hok acc.length (Nat.le_refl _) (by omega)
    have hx := name_len (l := acc ++ x :: l) (j := acc.length) (by simp) h0
    have hxe : (acc ++ x :: l)[acc.length]'(by simp) = x := by simp
    rw [hxe] at hx
    have hnb : (nameB x).length = 5 + x.name.length := by simp [nameB]; omega
    have hq : p ++ namesB (x :: l) = p ++ (bytes4 x.place ++ ([UInt8.ofNat x.name.length] ++ (x.name ++ namesB l))) := by rw [e]; simp [nameB]
    have hlen8 : (UInt8.ofNat x.name.length).toNat = x.name.length := by rw [UInt8.toNat_ofNat']; omega
    have g4 : (p ++ namesB (x :: l)).getD (p.length + 4) 0 = UInt8.ofNat x.name.length := by
      rw [hq, List.getD, List.getElem?_append_right (by omega), show p.length + 4 - p.length = 4 by omega, List.getElem?_append_right (by simp)]
      simp
    have gw : wordAt (p ++ namesB (x :: l)) p.length = x.place := by
      rw [hq, ← List.append_assoc]
      exact word_at rfl
    have gn : ((p ++ namesB (x :: l)).drop (p.length + 5)).take x.name.length = x.name := by
      have : p ++ namesB (x :: l) = (p ++ bytes4 x.place ++ [UInt8.ofNat x.name.length]) ++ (x.name ++ namesB l) := by rw [hq]; simp
      rw [this, List.drop_left' (by simp), List.take_left' rfl]
    have hlenT : (p ++ namesB (x :: l)).length = p.length + 5 + x.name.length + (namesB l).length := by rw [e]; simp [hnb]; omega
    rw [expP, if_pos (by omega), g4, hlen8, if_neg (by omega), gw, gn]
    have hxx : (⟨x.name, x.place⟩ : Export) = x := rfl
    rw [hxx, show nameOk (acc ++ [x]) acc.length = true from by
      have := nameOk_prefix (a := acc ++ [x]) (b := l) (j := acc.length) (by simp)
      rw [← this]; simpa using h0]
    simp only [if_true]
    have ih := expP_enc l (p ++ nameB x) (acc ++ [x]) (by simp; omega) (fun j h1 h2 => by
      simp at h1 h2
      have := hok j (by omega) (by omega)
      simpa using this)
    rw [e, ← List.append_assoc, show p.length + 5 + x.name.length = (p ++ nameB x).length by simp [hnb]; omega, ih]
    simp
end Go.Proofs.Ytihmfdmojnfdpaa
end
section
namespace Go.Proofs.Ytihmfdmojnfdpaa
open Go Go.Sim
set_option linter.unusedSimpArgs false
set_option linter.unusedVariables false

theorem word_words {m s : List UInt8} {W : List UInt32} {k n : Nat} (hk : k < W.length) (hn : n = m.length + 4 * k) : wordAt (m ++ words W ++ s) n = W[k] := by
  have e : W = W.take k ++ (W[k] :: W.drop (k + 1)) := by rw [← List.drop_eq_getElem_cons hk, List.take_append_drop]
  have : m ++ words W ++ s = (m ++ words (W.take k)) ++ bytes4 W[k] ++ (words (W.drop (k + 1)) ++ s) := by
    conv => lhs; rw [e]
    rw [words_append]
    show m ++ (words (W.take k) ++ (bytes4 W[k] ++ words (W.drop (k + 1)))) ++ s = _
    simp
  rw [this]
  exact word_at (by simp [words_length]; omega)
theorem firstLap_eq {s : Span} {l : List Span} {j : Nat} (h : ∀ k (hk : k < l.length), lap s l[k] = false) : firstLap s l j = none := by
  rw [firstLap]
  split
  · rename_i hj
    rw [h j hj]
    simp only [Bool.false_eq_true, if_false]
    exact firstLap_eq h
  · rfl
termination_by l.length - j
theorem lapFrom_eq {l : List Span} {i : Nat} (h : ∀ k (hk : k < l.length) j (hj : j < k), lap l[k] (l[j]'(by omega)) = false) : lapFrom l i = none := by
  rw [lapFrom]
  split
  · rename_i hi
    rw [firstLap_eq (s := l[i]) (l := l.take i) (j := 0) fun k hk => by
      simp at hk
      rw [List.getElem_take]
      exact h i hi k (by omega)]
    exact lapFrom_eq h
  · rfl
termination_by l.length - i

noncomputable def headW (x : Img) : List UInt32 := [1, 0, UInt32.ofNat x.code.length, 64, UInt32.ofNat (encI x.code).length, UInt32.ofNat (64 + (encI x.code).length), UInt32.ofNat (words x.jumps).length,
  UInt32.ofNat (64 + (encI x.code).length + (words x.jumps).length), UInt32.ofNat x.data.length, UInt32.ofNat (64 + (encI x.code).length + (words x.jumps).length + x.data.length), UInt32.ofNat (namesB x.names).length, x.zero, x.stack, 0, 0]
theorem encF_eq (x : Img) : encF x = [80, 69, 78, 33] ++ words (headW x) ++ (encI x.code ++ words x.jumps ++ x.data ++ namesB x.names) := by
  have e : ∀ a b : List UInt32, words a ++ words b = words (a ++ b) := fun a b => (words_append a b).symm
  unfold encF headW
  simp [words]
structure Sizes (x : Img) : Prop where
  a : (encI x.code).length ≤ 81920
  b : (words x.jumps).length ≤ 65536
  c : x.data.length ≤ 65536
  d : (namesB x.names).length ≤ 2368
  code : x.code.length ≤ 16384
theorem sizes {x : Img} (hc : checkP x = 0) : Sizes x := by
  obtain ⟨c1, c2, c3, c4, c5, c6, c7⟩ := check_ok hc
  have a0 := encI_len x.code
  have a1 := words_length x.jumps
  have hn32 : ∀ n ∈ x.names, n.name.length ≤ 32 := fun n hn => by
    obtain ⟨j, hj, rfl⟩ := List.mem_iff_getElem.1 hn
    exact (name_len hj (names_good c7 j (Nat.zero_le j) hj)).2
  have := namesB_len hn32
  exact ⟨by omega, by omega, by omega, by omega, c1⟩
theorem encF_len (x : Img) : (encF x).length = 64 + (encI x.code).length + (words x.jumps).length + x.data.length + (namesB x.names).length := by
  rw [encF_eq]; simp [words_length, headW]; omega
theorem enc_word {x : Img} {k n : Nat} (hk : k < 15) (h2 : k = 0 ∨ 2 ≤ k) (hn : n = 4 + 4 * k) : wordAt (encP x) n = (headW x)[k]'(by simp [headW]; omega) := by
  have hl := encF_len x
  unfold encP
  rw [word_congr (b := encF x) (by rw [sealP_length _ (by omega)]; omega) (by omega) fun j hj => seal_get (by omega) (by omega), encF_eq]
  exact word_words (by simp [headW]; omega) (by simpa using hn)
theorem u32 {n : Nat} (h : n < 4294967296) : (UInt32.ofNat n).toNat = n := by rw [UInt32.toNat_ofNat', Nat.mod_eq_of_lt h]
theorem enc_drop {x : Img} {n : Nat} {q r : List UInt8} (h : 64 ≤ n) (hq : encF x = q ++ r) (hn : q.length = n) : (encP x).drop n = r := by
  have hl := encF_len x
  apply List.ext_getElem?
  intro i
  rw [List.getElem?_drop]
  unfold encP
  rw [seal_get (by omega) (by omega), hq, List.getElem?_append_right (by omega)]
  congr 1
  omega
theorem encF_cut (x : Img) : encF x = ([80, 69, 78, 33] ++ words (headW x)) ++ (encI x.code ++ (words x.jumps ++ (x.data ++ namesB x.names))) := by rw [encF_eq]; simp
theorem head_len (x : Img) : ([80, 69, 78, 33] ++ words (headW x)).length = 64 := by simp [words_length, headW]
theorem enc_span (x : Img) (s : Sizes x) : spanI (encP x) 0 = ⟨64, UInt32.ofNat (encI x.code).length⟩ ∧ spanI (encP x) 1 = ⟨UInt32.ofNat (64 + (encI x.code).length), UInt32.ofNat (words x.jumps).length⟩ ∧
    spanI (encP x) 2 = ⟨UInt32.ofNat (64 + (encI x.code).length + (words x.jumps).length), UInt32.ofNat x.data.length⟩ ∧ spanI (encP x) 3 = ⟨UInt32.ofNat (64 + (encI x.code).length + (words x.jumps).length + x.data.length), UInt32.ofNat (namesB x.names).length⟩ := by
  unfold spanI
  refine ⟨?_, ?_, ?_, ?_⟩
  · rw [enc_word (k := 3) (by omega) (by omega) (by omega), enc_word (k := 4) (by omega) (by omega) (by omega)]; rfl
  · rw [enc_word (k := 5) (by omega) (by omega) (by omega), enc_word (k := 6) (by omega) (by omega) (by omega)]; rfl
  · rw [enc_word (k := 7) (by omega) (by omega) (by omega), enc_word (k := 8) (by omega) (by omega) (by omega)]; rfl
  · rw [enc_word (k := 9) (by omega) (by omega) (by omega), enc_word (k := 10) (by omega) (by omega) (by omega)]; rfl
theorem enc_seg (x : Img) (s : Sizes x) : segP (encP x) 0 = encI x.code ∧ segP (encP x) 1 = words x.jumps ∧ segP (encP x) 2 = x.data ∧ segP (encP x) 3 = namesB x.names := by
  obtain ⟨sa, sb, sc, sd, _⟩ := s
  obtain ⟨h0, h1, h2, h3⟩ := enc_span x ⟨sa, sb, sc, sd, by assumption⟩
  have hh := head_len x
  have h64 : (64 : UInt32).toNat = 64 := rfl
  unfold segP
  rw [h0, h1, h2, h3]
  simp only [h64, u32 (show (encI x.code).length < 4294967296 by omega), u32 (show 64 + (encI x.code).length < 4294967296 by omega), u32 (show (words x.jumps).length < 4294967296 by omega), u32 (show 64 + (encI x.code).length + (words x.jumps).length < 4294967296 by omega),
    u32 (show x.data.length < 4294967296 by omega), u32 (show 64 + (encI x.code).length + (words x.jumps).length + x.data.length < 4294967296 by omega), u32 (show (namesB x.names).length < 4294967296 by omega)]
  refine ⟨?_, ?_, ?_, ?_⟩
  · rw [enc_drop (by omega) (encF_cut x) hh]
    exact List.take_left' rfl
  · rw [enc_drop (q := ([80, 69, 78, 33] ++ words (headW x)) ++ encI x.code) (r := words x.jumps ++ (x.data ++ namesB x.names)) (by omega) (by rw [encF_cut]; simp) (by rw [List.length_append, hh])]
    exact List.take_left' rfl
  · rw [enc_drop (q := ([80, 69, 78, 33] ++ words (headW x)) ++ encI x.code ++ words x.jumps) (r := x.data ++ namesB x.names) (by omega) (by rw [encF_cut]; simp) (by rw [List.length_append, List.length_append, hh])]
    exact List.take_left' rfl
  · rw [enc_drop (q := ([80, 69, 78, 33] ++ words (headW x)) ++ encI x.code ++ words x.jumps ++ x.data) (r := namesB x.names) (by omega) (by rw [encF_cut]; simp) (by rw [List.length_append, List.length_append, List.length_append, hh])]
    exact List.take_of_length_le (Nat.le_refl _)
theorem enc_head (x : Img) (s : Sizes x) : headP (encP x) = (0, 0) := by
  obtain ⟨h0, h1, h2, h3⟩ := enc_span x s
  obtain ⟨sa, sb, sc, sd, _⟩ := s
  have hl := encF_len x
  have hlen : (encP x).length = (encF x).length := sealP_length _ (by omega)
  have h64 : (64 : UInt32).toNat = 64 := rfl
  have ht : (encP x).take 4 = [80, 69, 78, 33] := by
    apply List.ext_getElem?
    intro i
    by_cases hi : i < 4
    · rw [List.getElem?_take_of_lt hi]
      unfold encP
      rw [seal_get (by omega) (by omega), encF_cut, List.append_assoc, List.getElem?_append_left (by simpa using hi)]
    · rw [List.getElem?_eq_none (by simp; omega), List.getElem?_eq_none (by simp; omega)]
  have w4 : wordAt (encP x) 4 = 1 := by rw [enc_word (k := 0) (by omega) (by omega) (by omega)]; rfl
  have w56 : wordAt (encP x) 56 = 0 := by rw [enc_word (k := 13) (by omega) (by omega) (by omega)]; rfl
  have w60 : wordAt (encP x) 60 = 0 := by rw [enc_word (k := 14) (by omega) (by omega) (by omega)]; rfl
  have ws : wordAt (sealP (encP x)) 8 = wordAt (encP x) 8 := seal_seal (by omega)
  have u := fun n (h : n < 4294967296) => u32 h
  have hlap : lapFrom (⟨0, 64⟩ :: spansP (encP x)) 0 = none := by
    unfold spansP
    rw [h0, h1, h2, h3]
    apply lapFrom_eq
    intro k hk j hj
    simp only [List.length_cons, List.length_nil] at hk
    have e0 : (0 : UInt32).toNat = 0 := rfl
    have ua := u (encI x.code).length (by omega)
    have ub := u (words x.jumps).length (by omega)
    have uc := u x.data.length (by omega)
    have ud := u (namesB x.names).length (by omega)
    have p1 := u (64 + (encI x.code).length) (by omega)
    have p2 := u (64 + (encI x.code).length + (words x.jumps).length) (by omega)
    have p3 := u (64 + (encI x.code).length + (words x.jumps).length + x.data.length) (by omega)
    have hk5 : k = 1 ∨ k = 2 ∨ k = 3 ∨ k = 4 := by omega
    rcases hk5 with rfl | rfl | rfl | rfl
    · obtain rfl : j = 0 := by omega
      unfold lap; simp only [List.getElem_cons_succ, List.getElem_cons_zero, e0, h64, ua, decide_eq_false_iff_not]; omega
    · have hj2 : j = 0 ∨ j = 1 := by omega
      rcases hj2 with rfl | rfl <;> unfold lap <;> simp only [List.getElem_cons_succ, List.getElem_cons_zero, e0, h64, ua, ub, p1, decide_eq_false_iff_not] <;> omega
    · have hj2 : j = 0 ∨ j = 1 ∨ j = 2 := by omega
      rcases hj2 with rfl | rfl | rfl <;> unfold lap <;> simp only [List.getElem_cons_succ, List.getElem_cons_zero, e0, h64, ua, ub, uc, p1, p2, decide_eq_false_iff_not] <;> omega
    · have hj2 : j = 0 ∨ j = 1 ∨ j = 2 ∨ j = 3 := by omega
      rcases hj2 with rfl | rfl | rfl | rfl <;> unfold lap <;> simp only [List.getElem_cons_succ, List.getElem_cons_zero, e0, h64, ua, ub, uc, ud, p1, p2, p3, decide_eq_false_iff_not] <;> omega
  have s0 : (spanI (encP x) 0).stop = 64 + (encI x.code).length := by rw [h0]; unfold Span.stop; simp only [h64, u _ (show (encI x.code).length < 4294967296 by omega)]
  have s1 : (spanI (encP x) 1).stop = 64 + (encI x.code).length + (words x.jumps).length := by rw [h1]; unfold Span.stop; simp only [u _ (show (words x.jumps).length < 4294967296 by omega), u _ (show 64 + (encI x.code).length < 4294967296 by omega)]
  have s2 : (spanI (encP x) 2).stop = 64 + (encI x.code).length + (words x.jumps).length + x.data.length := by rw [h2]; unfold Span.stop; simp only [u _ (show x.data.length < 4294967296 by omega), u _ (show 64 + (encI x.code).length + (words x.jumps).length < 4294967296 by omega)]
  have s3 : (spanI (encP x) 3).stop = 64 + (encI x.code).length + (words x.jumps).length + x.data.length + (namesB x.names).length := by rw [h3]; unfold Span.stop; simp only [u _ (show (namesB x.names).length < 4294967296 by omega), u _ (show 64 + (encI x.code).length + (words x.jumps).length + x.data.length < 4294967296 by omega)]
  unfold headP
  rw [if_neg (by omega), if_neg (by omega), if_neg (by simp [ht]), if_neg (by simp [w4]), if_neg (by simp [ws]), if_neg (by simp [w56]), if_neg (by simp [w60]), if_neg (by omega), if_neg (by omega), if_neg (by omega), if_neg (by omega), hlap]
/-- What is written is read again. -/
theorem parse_enc {x : Img} (hc : checkP x = 0) : parseP (encP x) = (x, 0, 0) := by
  have s := sizes hc
  obtain ⟨c1, c2, c3, c4, c5, c6, c7⟩ := check_ok hc
  obtain ⟨g0, g1, g2, g3⟩ := enc_seg x s
  have hh := enc_head x s
  have d0 : decI (encI x.code) 0 0 = (x.code, 0, 0) := by simpa using decI_enc x.code [] 0 (by omega) (code_all hc)
  have e0 : expP (namesB x.names) 0 [] = (x.names, 0, 0) := by
    have := expP_enc x.names [] [] (by simpa using c6) (fun j h1 h2 => by simpa using names_good c7 j (Nat.zero_le j) (by simpa using h2))
    simpa using this
  have w12 : wordAt (encP x) 12 = UInt32.ofNat x.code.length := by rw [enc_word (k := 2) (by omega) (by omega) (by omega)]; rfl
  have w48 : wordAt (encP x) 48 = x.zero := by rw [enc_word (k := 11) (by omega) (by omega) (by omega)]; rfl
  have w52 : wordAt (encP x) 52 = x.stack := by rw [enc_word (k := 12) (by omega) (by omega) (by omega)]; rfl
  have hw := words_length x.jumps
  unfold parseP
  rw [g0, g1, g2, g3, d0, e0, hh, w12, w48, w52, wordsOf_words, u32 (by omega)]
  rw [if_neg (by simp), if_neg (by simp), if_neg (by simp), if_neg (by omega), if_neg (by simp [c4]), if_neg (by omega), if_neg (by simp)]
end Go.Proofs.Ytihmfdmojnfdpaa
end
section
namespace Go.Proofs.Ytihmfdmojnfdpaa
open Go Go.Sim
set_option linter.unusedSimpArgs false
set_option linter.unusedVariables false

theorem bytes_arg (b : List UInt8) (w n : Nat) (hb : b.length = w) (hw : w ≤ 4) (hn : n < 4294967296) (h : ∀ k, k < w → (b.getD k 0).toNat = n / 256 ^ k % 256) : (bytes4 (UInt32.ofNat n)).take w = b := by
  have e : ∀ (m : Nat) (x : UInt8), x.toNat = m % 256 → UInt8.ofNat (m % 256) = x := fun m x h => by rw [← h]; simp
  unfold bytes4
  rw [u32 hn]
  have hw5 : w = 0 ∨ w = 1 ∨ w = 2 ∨ w = 3 ∨ w = 4 := by omega
  rcases hw5 with rfl | rfl | rfl | rfl | rfl
  · rw [List.length_eq_zero_iff.1 hb]; rfl
  · match b, hb with
    | [p], _ =>
      have h0 := h 0 (by omega)
      simp [List.getD] at h0
      simp [e n p h0]
  · match b, hb with
    | [p, q], _ =>
      have h0 := h 0 (by omega); have h1 := h 1 (by omega)
      simp [List.getD] at h0 h1
      simp [e n p h0, e _ q h1]
  · match b, hb with
    | [p, q, r], _ =>
      have h0 := h 0 (by omega); have h1 := h 1 (by omega); have h2 := h 2 (by omega)
      simp [List.getD] at h0 h1 h2
      simp [e n p h0, e _ q h1, e _ r h2]
  · match b, hb with
    | [p, q, r, s], _ =>
      have h0 := h 0 (by omega); have h1 := h 1 (by omega); have h2 := h 2 (by omega); have h3 := h 3 (by omega)
      simp [List.getD] at h0 h1 h2 h3
      simp [e n p h0, e _ q h1, e _ r h2, e _ s h3]
theorem readI_dec {l : List UInt8} {a k : Nat} {i : Instr} (ha : a < l.length) (h : readI l a = .ok (i, k)) : insBad i = 0 ∧ a + k ≤ l.length ∧ encOne i = (l.drop a).take k := by
  unfold readI at h
  dsimp only at h
  by_cases hop : isOp (l.getD a 0).toNat = true
  · rw [if_pos hop] at h
    obtain ⟨hw, hm, hpw⟩ := rowOf_some (l.getD a 0)
    by_cases hc : l.length < a + 1 + (rowOf (l.getD a 0).toNat).width
    · rw [if_pos hc] at h; cases h
    rw [if_neg hc] at h
    by_cases hmo : (rowOf (l.getD a 0).toNat).most < argUp l a (rowOf (l.getD a 0).toNat).width 0
    · rw [if_pos hmo] at h; cases h
    rw [if_neg hmo] at h
    simp only [Except.ok.injEq, Prod.mk.injEq] at h
    obtain ⟨rfl, rfl⟩ := h
    have harg := argUp_lt l a (rowOf (l.getD a 0).toNat).width 0 0 (by simp)
    rw [Nat.zero_add] at harg
    have h32 : argUp l a (rowOf (l.getD a 0).toNat).width 0 < 4294967296 := by omega
    refine ⟨?_, by omega, ?_⟩
    · unfold insBad
      simp only [hop, if_true]
      rw [u32 h32, if_neg hmo]
    · have hd : l.drop a = l.getD a 0 :: l.drop (a + 1) := by
        rw [List.drop_eq_getElem_cons ha, List.getD, List.getElem?_eq_getElem ha]; rfl
      rw [hd, Nat.add_comm 1, List.take_succ_cons]
      unfold encOne
      congr 1
      show (bytes4 (UInt32.ofNat (argUp l a (rowOf (l.getD a 0).toNat).width 0))).take (rowOf (l.getD a 0).toNat).width = (l.drop (a + 1)).take (rowOf (l.getD a 0).toNat).width
      refine bytes_arg _ (rowOf (l.getD a 0).toNat).width _ (by rw [List.length_take, List.length_drop]; omega) hw h32 ?_
      intro k hk
      have hg : ((l.drop (a + 1)).take (rowOf (l.getD a 0).toNat).width).getD k 0 = l.getD (a + (k + 1)) 0 := by
        rw [List.getD, List.getElem?_take_of_lt hk, List.getElem?_drop, List.getD, show a + 1 + k = a + (k + 1) by omega]
      rw [hg]
      clear hg hmo hc hd h32 harg hm hpw hop
      have hw5 : (rowOf (l.getD a 0).toNat).width = 0 ∨ (rowOf (l.getD a 0).toNat).width = 1 ∨ (rowOf (l.getD a 0).toNat).width = 2 ∨ (rowOf (l.getD a 0).toNat).width = 3 ∨ (rowOf (l.getD a 0).toNat).width = 4 := by omega
      have b1 := (l.getD (a + (0 + 1)) 0).toNat_lt; have b2 := (l.getD (a + (1 + 1)) 0).toNat_lt; have b3 := (l.getD (a + (2 + 1)) 0).toNat_lt; have b4 := (l.getD (a + (3 + 1)) 0).toNat_lt
      rcases hw5 with hq | hq | hq | hq | hq <;> rw [hq] at hk ⊢ <;> simp only [argUp]
      · omega
      · obtain rfl : k = 0 := by omega
        simp only [Nat.pow_zero]; omega
      · have : k = 0 ∨ k = 1 := by omega
        rcases this with rfl | rfl <;> simp only [Nat.reducePow] <;> omega
      · have : k = 0 ∨ k = 1 ∨ k = 2 := by omega
        rcases this with rfl | rfl | rfl <;> simp only [Nat.reducePow] <;> omega
      · have : k = 0 ∨ k = 1 ∨ k = 2 ∨ k = 3 := by omega
        rcases this with rfl | rfl | rfl | rfl <;> simp only [Nat.reducePow] <;> omega
  · rw [if_neg hop] at h; cases h
theorem decI_dec (l : List UInt8) (a n : Nat) (ha : a ≤ l.length) (h : (decI l a n).2.2 = 0) : encI (decI l a n).1 = l.drop a ∧ ∀ i ∈ (decI l a n).1, insBad i = 0 := by
  rw [decI] at h ⊢
  by_cases h1 : a < l.length
  · rw [if_pos h1] at h ⊢
    by_cases h2 : n < 16384
    · rw [if_pos h2] at h ⊢
      cases hr : readI l a with
      | error e =>
        rw [hr] at h
        have := readI_err hr
        simp only at h; omega
      | ok ik =>
        obtain ⟨i, k⟩ := ik
        rw [hr] at h
        simp only at h ⊢
        obtain ⟨g1, g2, g3⟩ := readI_dec h1 hr
        obtain ⟨k1, k2⟩ := decI_dec l (a + k) (n + 1) g2 h
        refine ⟨?_, fun j hj => ?_⟩
        · have : encI (i :: (decI l (a + k) (n + 1)).1) = encOne i ++ encI (decI l (a + k) (n + 1)).1 := by simp [encI]
          rw [this, k1, g3, ← List.drop_drop, List.take_append_drop]
        · rcases List.mem_cons.1 hj with rfl | hj
          · exact g1
          · exact k2 j hj
    · rw [if_neg h2] at h; simp at h
  · rw [if_neg h1]
    exact ⟨by rw [List.drop_of_length_le (by omega)]; rfl, fun i hi => by simp at hi⟩
termination_by 16384 - n
theorem expP_dec (l : List UInt8) (a : Nat) (acc : List Export) (ha : a ≤ l.length) (hg : ∀ j, j < acc.length → nameOk acc j = true) (h : (expP l a acc).2.2 = 0) :
    ∃ r, (expP l a acc).1 = acc ++ r ∧ namesB r = l.drop a ∧ ∀ j, j < (acc ++ r).length → nameOk (acc ++ r) j = true := by
  rw [expP] at h ⊢
  by_cases h1 : a < l.length
  · rw [if_pos h1] at h ⊢
    by_cases h2 : l.length < a + 5 ∨ l.length < a + 5 + (l.getD (a + 4) 0).toNat ∨ acc.length = 64
    · rw [if_pos h2] at h; simp at h
    rw [if_neg h2] at h ⊢
    simp only [not_or, Nat.not_lt] at h2
    obtain ⟨x, hx⟩ : ∃ x : Export, x = ⟨(l.drop (a + 5)).take (l.getD (a + 4) 0).toNat, wordAt l a⟩ := ⟨_, rfl⟩
    rw [← hx] at h ⊢
    by_cases h3 : nameOk (acc ++ [x]) acc.length = true
    · rw [if_pos h3] at h ⊢
      obtain ⟨r, e1, e2, e3⟩ := expP_dec l (a + 5 + (l.getD (a + 4) 0).toNat) (acc ++ [x]) (by omega) (fun j hj => by
        simp at hj
        by_cases hq : j < acc.length
        · rw [nameOk_prefix hq]; exact hg j hq
        · obtain rfl : j = acc.length := by omega
          exact h3) h
      refine ⟨x :: r, by rw [e1]; simp, ?_, by simpa using e3⟩
      have hn : namesB (x :: r) = nameB x ++ namesB r := by simp [namesB]
      have hxl : x.name.length = (l.getD (a + 4) 0).toNat := by rw [hx]; show (List.take _ _).length = _; rw [List.length_take, List.length_drop]; omega
      obtain ⟨p, q, s, t, d, hd⟩ := drop4 (l := l) (n := a) (by omega)
      have h5 : l.drop a = (l.drop a).take 4 ++ (l.getD (a + 4) 0 :: l.drop (a + 5)) := by
        conv => lhs; rw [← List.take_append_drop 4 (l.drop a)]
        rw [List.drop_drop, List.drop_eq_getElem_cons (show a + 4 < l.length by omega), List.getD, List.getElem?_eq_getElem (show a + 4 < l.length by omega)]
        rfl
      have hb4 : bytes4 x.place = (l.drop a).take 4 := by
        rw [hx]; unfold wordAt; rw [hd]; exact bytes4_word4 p q s t
      rw [hn, e2, h5]
      unfold nameB
      rw [hb4, hxl, show l.drop (a + 5 + (l.getD (a + 4) 0).toNat) = (l.drop (a + 5)).drop (l.getD (a + 4) 0).toNat from List.drop_drop.symm]
      have h8 : UInt8.ofNat (l.getD (a + 4) 0).toNat = l.getD (a + 4) 0 := by simp
      rw [h8]
      have hxn : x.name = (l.drop (a + 5)).take (l.getD (a + 4) 0).toNat := by rw [hx]
      rw [hxn, List.append_assoc, List.append_assoc, List.take_append_drop]
      rfl
    · rw [if_neg h3] at h; simp at h
  · rw [if_neg h1] at h ⊢
    refine ⟨[], by simp, by rw [List.drop_of_length_le (by omega)]; rfl, by simpa using hg⟩
termination_by l.length - a
theorem codeFrom_good {l : List Instr} {k : Nat} (h : ∀ i ∈ l, insBad i = 0) : codeFrom l k = 0 := by
  rw [codeFrom]
  split
  · rename_i hk
    rw [if_neg (by simp [h _ (List.getElem_mem hk)])]
    exact codeFrom_good h
  · rfl
termination_by l.length - k
theorem namesFrom_good {l : List Export} {k : Nat} (h : ∀ j, j < l.length → nameOk l j = true) : namesFrom l k = true := by
  rw [namesFrom]
  split
  · rename_i hk
    rw [h k hk, namesFrom_good h]; rfl
  · rfl
termination_by l.length - k
set_option maxHeartbeats 4000000 in
theorem disjoint4 {p0 p1 p2 p3 n0 n1 n2 n3 N : Nat} (s0 : p0 + n0 ≤ N) (s1 : p1 + n1 ≤ N) (s2 : p2 + n2 ≤ N) (s3 : p3 + n3 ≤ N) (h0 : n0 = 0 ∨ 64 ≤ p0) (h1 : n1 = 0 ∨ 64 ≤ p1) (h2 : n2 = 0 ∨ 64 ≤ p2) (h3 : n3 = 0 ∨ 64 ≤ p3) (hN : 64 ≤ N)
    (d01 : n0 = 0 ∨ n1 = 0 ∨ p0 + n0 ≤ p1 ∨ p1 + n1 ≤ p0) (d02 : n0 = 0 ∨ n2 = 0 ∨ p0 + n0 ≤ p2 ∨ p2 + n2 ≤ p0) (d03 : n0 = 0 ∨ n3 = 0 ∨ p0 + n0 ≤ p3 ∨ p3 + n3 ≤ p0)
    (d12 : n1 = 0 ∨ n2 = 0 ∨ p1 + n1 ≤ p2 ∨ p2 + n2 ≤ p1) (d13 : n1 = 0 ∨ n3 = 0 ∨ p1 + n1 ≤ p3 ∨ p3 + n3 ≤ p1) (d23 : n2 = 0 ∨ n3 = 0 ∨ p2 + n2 ≤ p3 ∨ p3 + n3 ≤ p2) : 64 + n0 + n1 + n2 + n3 ≤ N := by
  by_cases z0 : n0 = 0 <;> by_cases z1 : n1 = 0 <;> by_cases z2 : n2 = 0 <;> by_cases z3 : n3 = 0 <;> simp only [z0, z1, z2, z3, true_or, or_true, false_or] at d01 d02 d03 d12 d13 d23 h0 h1 h2 h3 <;> omega
end Go.Proofs.Ytihmfdmojnfdpaa
end
section
namespace Go.Proofs.Ytihmfdmojnfdpaa
open Go Go.Sim
set_option linter.unusedSimpArgs false
set_option linter.unusedVariables false

theorem parse_ok {l : List UInt8} (h : (parseP l).2.2 = 0) : (headP l).2 = 0 ∧ (decI (segP l 0) 0 0).2.2 = 0 ∧ (segP l 1).length % 4 = 0 ∧ (wordsOf (segP l 1)).length ≤ 16384 ∧ stackOk (wordAt l 52) = true ∧
    (segP l 2).length + (wordAt l 48).toNat + (wordAt l 52).toNat ≤ 65536 ∧ (expP (segP l 3) 0 []).2.2 = 0 ∧ parseP l = (⟨(decI (segP l 0) 0 0).1, wordsOf (segP l 1), segP l 2, wordAt l 48, wordAt l 52, (expP (segP l 3) 0 []).1⟩, 0, 0) := by
  have h1 := parse_head h
  have hp : parseP l = parseP l := rfl
  unfold parseP at h
  rw [if_neg (by simp [h1])] at h
  by_cases h2 : (decI (segP l 0) 0 0).2.2 ≠ 0
  · rw [if_pos h2] at h; exact absurd h h2
  rw [if_neg h2] at h
  by_cases h3 : (decI (segP l 0) 0 0).1.length ≠ (wordAt l 12).toNat
  · rw [if_pos h3] at h; simp at h
  rw [if_neg h3] at h
  by_cases h4 : (segP l 1).length % 4 ≠ 0 ∨ 16384 < (wordsOf (segP l 1)).length
  · rw [if_pos h4] at h; simp at h
  rw [if_neg h4] at h
  by_cases h5 : stackOk (wordAt l 52) = false
  · rw [if_pos h5] at h; simp at h
  rw [if_neg h5] at h
  by_cases h6 : 65536 < (segP l 2).length + (wordAt l 48).toNat + (wordAt l 52).toNat
  · rw [if_pos h6] at h; simp at h
  rw [if_neg h6] at h
  by_cases h7 : (expP (segP l 3) 0 []).2.2 ≠ 0
  · rw [if_pos h7] at h; exact absurd h h7
  refine ⟨h1, by simpa using h2, by omega, by omega, by simpa using h5, by omega, by simpa using h7, ?_⟩
  unfold parseP
  rw [if_neg (by simp [h1]), if_neg h2, if_neg h3, if_neg h4, if_neg h5, if_neg h6, if_neg h7]
theorem parse_check {l : List UInt8} (h : (parseP l).2.2 = 0) : checkP (parseP l).1 = 0 := by
  obtain ⟨g1, g2, g3, g4, g5, g6, g7, g8⟩ := parse_ok h
  have d := decI_dec (segP l 0) 0 0 (Nat.zero_le _) g2
  have dl := decI_len (segP l 0) 0 0 (by omega)
  obtain ⟨r, e1, e2, e3⟩ := expP_dec (segP l 3) 0 [] (Nat.zero_le _) (fun j hj => by simp at hj) g7
  have xl := expP_len (segP l 3) 0 [] (by simp)
  rw [List.nil_append] at e1 e3
  rw [g8]
  unfold checkP
  simp only
  rw [codeFrom_good d.2, e1, namesFrom_good e3]
  rw [e1] at xl
  rw [if_neg (by omega), if_neg (by simp), if_neg (by omega), if_neg (by simp [g5]), if_neg (by omega), if_neg (by omega), if_neg (by simp)]
theorem lap_off {a b : Span} (h : lap a b = false) : a.len.toNat = 0 ∨ b.len.toNat = 0 ∨ a.place.toNat + a.len.toNat ≤ b.place.toNat ∨ b.place.toNat + b.len.toNat ≤ a.place.toNat := by
  unfold lap at h
  simp only [decide_eq_false_iff_not] at h
  omega
theorem head_laps {l : List UInt8} (h : (headP l).2 = 0) : lapFrom (⟨0, 64⟩ :: spansP l) 0 = none := by
  obtain ⟨hlo, hhi, g0, g1, g2, g3⟩ := headP_ok h
  unfold headP at h
  rw [if_neg (by omega), if_neg (by omega)] at h
  by_cases h3 : l.take 4 ≠ [80, 69, 78, 33]
  · simp [h3] at h
  rw [if_neg h3] at h
  by_cases h4 : wordAt l 4 ≠ 1
  · simp [h4] at h
  rw [if_neg h4] at h
  by_cases h5 : wordAt (sealP l) 8 ≠ wordAt l 8
  · simp [h5] at h
  rw [if_neg h5] at h
  by_cases h6 : wordAt l 56 ≠ 0
  · simp [h6] at h
  rw [if_neg h6] at h
  by_cases h7 : wordAt l 60 ≠ 0
  · simp [h7] at h
  rw [if_neg h7, if_neg (by omega), if_neg (by omega), if_neg (by omega), if_neg (by omega)] at h
  split at h
  · simp at h
  · assumption
theorem segP_full {l : List UInt8} {i : Nat} (h : (spanI l i).stop ≤ l.length) : (segP l i).length = (spanI l i).len.toNat := by
  unfold Span.stop at h
  unfold segP
  rw [List.length_take, List.length_drop]; omega
theorem enc_shorter {l : List UInt8} (h : (parseP l).2.2 = 0) : (encP (parseP l).1).length ≤ l.length := by
  obtain ⟨g1, g2, g3, g4, g5, g6, g7, g8⟩ := parse_ok h
  have d := decI_dec (segP l 0) 0 0 (Nat.zero_le _) g2
  obtain ⟨r, e1, e2, e3⟩ := expP_dec (segP l 3) 0 [] (Nat.zero_le _) (fun j hj => by simp at hj) g7
  rw [List.nil_append] at e1
  have hl := encF_len (parseP l).1
  have hlen : (encP (parseP l).1).length = (encF (parseP l).1).length := sealP_length _ (by omega)
  obtain ⟨hlo, hhi, _⟩ := headP_ok g1
  have q := fun i hi => head_spans g1 i hi
  have f0 := segP_full (q 0 (by omega)).1
  have f1 := segP_full (q 1 (by omega)).1
  have f2 := segP_full (q 2 (by omega)).1
  have f3 := segP_full (q 3 (by omega)).1
  have hk := lapFrom_none (head_laps g1)
  have lp : ∀ k (hk' : k < 5) j, j < k → ∀ a b, (⟨0, 64⟩ :: spansP l)[k]? = some a → (⟨0, 64⟩ :: spansP l)[j]? = some b → lap a b = false := by
    intro k hk' j hj a b ha hb
    have h5 : (⟨0, 64⟩ :: spansP l : List Span).length = 5 := rfl
    have := firstLap_none (hk k (Nat.zero_le k) (by omega)) j (Nat.zero_le j) (by rw [List.length_take]; omega)
    rw [List.getElem_take] at this
    rw [List.getElem?_eq_getElem (by omega)] at ha hb
    rw [← Option.some.inj ha, ← Option.some.inj hb]
    exact this
  have t10 := lap_off (lp 2 (by omega) 1 (by omega) _ _ rfl rfl)
  have t20 := lap_off (lp 3 (by omega) 1 (by omega) _ _ rfl rfl)
  have t30 := lap_off (lp 4 (by omega) 1 (by omega) _ _ rfl rfl)
  have t21 := lap_off (lp 3 (by omega) 2 (by omega) _ _ rfl rfl)
  have t31 := lap_off (lp 4 (by omega) 2 (by omega) _ _ rfl rfl)
  have t32 := lap_off (lp 4 (by omega) 3 (by omega) _ _ rfl rfl)
  have q0 := q 0 (by omega); have q1 := q 1 (by omega); have q2 := q 2 (by omega); have q3 := q 3 (by omega)
  unfold Span.stop at q0 q1 q2 q3
  have dj := disjoint4 q0.1 q1.1 q2.1 q3.1 q0.2 q1.2 q2.2 q3.2 hlo (by rcases t10 with h | h | h | h <;> simp [h]) (by rcases t20 with h | h | h | h <;> simp [h]) (by rcases t30 with h | h | h | h <;> simp [h])
    (by rcases t21 with h | h | h | h <;> simp [h]) (by rcases t31 with h | h | h | h <;> simp [h]) (by rcases t32 with h | h | h | h <;> simp [h])
  rw [hlen, hl, g8]
  simp only
  rw [d.1, words_wordsOf _ g3, e1, e2]
  simp only [List.drop_zero]
  omega
end Go.Proofs.Ytihmfdmojnfdpaa
end
