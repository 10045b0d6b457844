/-
 Package procs: Find.
 Package flow: found, info, next.
 The heap of indices: the methods, down, up, Pop, Push.
 slices.Repeat of one number.
 Plain facts of the heap and of the walk.
-/
import Derived.Test.YtfplmcpkagpaiaaGreatDoorGc
import Derived.Test.YtfplmcpkagpaiaaGreatDoorNf
set_option maxRecDepth 100000
set_option maxHeartbeats 0
set_option linter.unusedSimpArgs false
set_option linter.unusedVariables false
section
namespace Go.Proofs.YtfplmcpkagpaiaaGreatDoor.Fl
open Go Go.Sim
theorem cutS_of (s : List PR × List Nat) (i : Nat) (x : Instr) (h : ∀ p ∈ s.2, p < s.1.length) (h0 : x.op = 3 ∨ 0 < s.1.length) : (∀ p ∈ (cutS s i x).2, p < (cutS s i x).1.length) ∧ 0 < (cutS s i x).1.length := by
 unfold cutS
 by_cases hx : x.op = 3
 ·simp only [hx, if_true, List.length_set, List.length_append, List.length_singleton]
  refine ⟨fun p hp => ?_, by omega⟩
  rcases List.mem_append.mp hp with h1 | h1
  ·have := h p h1; omega
  ·simp at h1; omega
 ·have h0' : 0 < s.1.length := by rcases h0 with h | h; exact absurd h hx; exact h
  simp only [hx, if_false, List.length_set]
  refine ⟨fun p hp => ?_, by omega⟩
  rcases List.mem_append.mp hp with h1 | h1
  ·exact h p h1
  ·simp at h1; omega
theorem cutN_of {code : List Instr} (h0 : (code.getD 0 default).op = 3) : ∀ n, (∀ p ∈ (cutN code n).2, p < (cutN code n).1.length)
 | 0 => by simp [cutN]
 | n + 1 => by
  refine (cutS_of _ _ _ (cutN_of h0 n) ?_).1
  cases n with
  | zero => exact .inl h0
  | succ n => exact .inr (cutN_pos h0 (by omega))
def faultAt (s : List PR × List Nat) (code : List Instr) (i : Nat) : Nat := faultF (s.1.getD (s.2.getD i 0) default) i (code.getD i default)
abbrev procsV (s : List PR × List Nat) (ts : List (List Nat)) : V := .pcon [lst ePR s.1, lst eN s.2, .scon (ts.map (lst eW)) 0 ts.length false] 0
def findR (lent : Bool) (code : List Instr) (jumps : List Nat) (k m : Nat) : V :=
 if k < code.length then .tuple [.nilptr, ii k, ii (faultAt (cutF code) code k)]
 else if m < jumps.length then .tuple [.nilptr, ii m, ii 134]
 else .tuple [procsV (cutF code) (tgtN (cutF code) jumps jumps.length), ii 0, ii 0]
abbrev findSlots (code : List Instr) (jumps : List Nat) (nm out : V) (i : Nat) : List V :=
 [lst eInstr code, lst eW jumps, nm, xx, xx, xx, xx, xx, xx, out, ii 0, ii 0, V.pref 0 0 0 0, xx, xx, xx, xx, xx, xx, xx, V.tuple [out, ii 0, ii 0], lst eInstr code, V.tuple [out, ii 0, ii 0], out, ii 0,
    ii 0, ii 0, V.bool false, xx, xx, lst eInstr code, ii code.length, V.bool false, V.bool false,
    lst eInstr code, ptr eInstr code 0 0, ptr eInstr code 0 0, V.int IntKind.u8 3, V.bool false, V.bool false,
    lst eInstr code, V.pref 0 0 0 0, lst eInstr code, ii code.length, ii i] ++ pois 51
theorem optMap_of {f : V → Option V} : ∀ {l : List V} {l' : List V}, l.length = l'.length → (∀ i (h : i < l.length) (h' : i < l'.length), f l[i] = some l'[i]) → optMap f l = some l'
 | [], [], _, _ => rfl
 | [], _ :: _, h, _ => by simp at h
 | _ :: _, [], h, _ => by simp at h
 | x :: l, y :: l', h, hf => by
  have h0 := hf 0 (by simp) (by simp)
  have h1 := optMap_of (l := l) (l' := l') (by simpa using h) (fun i h h' => hf (i + 1) (by rw [List.length_cons]; omega) (by rw [List.length_cons]; omega))
  simp only [List.getElem_cons_zero] at h0
  simp [optMap, h0, h1]
theorem view_tcells (n : Nat) (s : List PR × List Nat) (ts : List (List Nat)) (r : Heap) : optMap (V.view (n + 1) (aimBlk s ts :: r)) (tCells ts) = some (ts.map (lst eW)) := by
 refine optMap_of (by simp) (fun i h h' => ?_)
 have hi : i < ts.length := by simpa using h
 have e1 : (tCells ts)[i] = .sref 0 (i + 4) 0 ts[i].length ts[i].length (1, false) := by simp [tCells]
 rw [e1]
 simp [tRows_get hi]
theorem canon_lsts (ts : List (List Nat)) : V.canonL (ts.map (lst eW)) = ts.map (lst eW) := by
 induction ts with
 | nil => rfl
 | cons l ts ih => simp [ih]
theorem stripL_tCells (ts : List (List Nat)) : V.stripL (tCells ts) = tCells ts := by
 have : ∀ l : List V, (∀ x ∈ l, ∃ j o n e q, x = V.sref 0 j o n e q) → V.stripL l = l := by
  intro l
  induction l with
  | nil => intro _; simp
  | cons x l ih =>
   intro h
   obtain ⟨j, o, n, e, q, rfl⟩ := h x (by simp)
   simp [ih fun y hy => h y (by simp [hy])]
 refine this _ fun x hx => ?_
 obtain ⟨j, o, n, e, q, _, h⟩ := tCells_low x hx
 exact ⟨j, o, n, e, q, h⟩
theorem tRows_strip (ts : List (List Nat)) : (tRows ts).map stripBlk = tRows ts := by
 rw [List.map_congr_left (g := id)]
 ·simp
 ·intro b hb
  obtain ⟨l, _, rfl⟩ := List.mem_map.1 hb
  simp
theorem Find_walk (lent) (nm : V) (hnm : nm = .nilslice ∨ nm = .scon [] 0 0 false) (code : List Instr) (jumps : List Nat) (hf : ∀ i ∈ code, insFits i) (hj : jumps.length ≤ 35184372087808) (hjf : ∀ t ∈ jumps, t < 4294967296) (he : encodes code) (hc : 0 < code.length) (h0 : (code.getD 0 default).op = 3)
  (k m : Nat) (hk : k ≤ code.length) (hb : ∀ i, i < k → faultAt (cutF code) code i = 0) (hbk : k < code.length → faultAt (cutF code) code k ≠ 0)
  (hm : m ≤ jumps.length) (hmb : ∀ i, i < m → ¬ badJ (cutF code) jumps i) (hmk : m < jumps.length → badJ (cutF code) jumps m) : pureV E (om E) 17 lent [lst eInstr code, lst eW jumps, nm] = some (findR lent code jumps k m) := by
 apply pu_17
 have hE : ∀ lent, _ := fun lent => Encode_ok lent code he.1 hf he.2
 have hne : code ≠ [] := by rintro rfl; simp at hc
 have hop : code[0].op = 3 := by simpa [List.getD, hc] using h0
 have s2 : (cutF code).2.length = code.length := (cutN_len code code.length).1
 have s1 : (cutF code).1.length ≤ code.length := (cutN_len code code.length).2
 have s0 : 0 < (cutF code).1.length := cutN_pos h0 hc
 have so : ∀ p ∈ (cutF code).2, p < (cutF code).1.length := cutN_of h0 code.length
 have hl := he.1
 have hcut := Cut_at code he.1 h0
 unfold findR
 generalize cutF code = s at *
 have haim := Aim s jumps m hm s0 (by omega) (by omega) so hj hjf hmb hmk
 rcases hnm with hnm | hnm
 all_goals
  simp (disch := omega) [if_pos, if_neg, iteK_pos, iteK_neg, Tryz.f17, hE, hc, hne, hop, hcut, hnm]
  refine loop_use (dyn := [10]) (fun (a : Nat) => findSlots code jumps nm (bs (encI code)) a)
   (fun a => [cutOut s]) (fun a => a ≤ k) (fun a => k - a) hint_17_0 (by kernel_rfl) ?_ 0 (by simp) (by simp [findSlots, hnm])
  rintro i hi IH
  rw [lpB_eq]
  by_cases hik : i < k
  ·have hlt : i < code.length := by omega
   have hbi := hb i hik
   have h2 : i < s.2.length := by omega
   have h1 : s.2[i] < s.1.length := so _ (List.getElem_mem h2)
   unfold faultAt at hbi
   rw [getD_lt hlt, getD_lt h2, getD_lt h1] at hbi
   simp (disch := omega) [if_pos, if_neg, iteK_pos, iteK_neg, hlt, h2, h1, PFault, hbi, eN_get, ePR_get0, ePR_get1, ePR_get2, ePR_get3]
   rw [iteK_pos (by kernel_rfl)]
   simp (disch := omega) [if_pos, if_neg, iteK_pos, iteK_neg, hlt, h2, h1, PFault, hbi, eN_get, ePR_get0, ePR_get1, ePR_get2, ePR_get3]
   exact IH (i + 1) _ _ (by omega) (by omega) (by simp [findSlots, hnm])
  ·obtain rfl : i = k := by omega
   by_cases hlt : i < code.length
   ·have hbi := hbk hlt
    have h2 : i < s.2.length := by omega
    have h1 : s.2[i] < s.1.length := so _ (List.getElem_mem h2)
    unfold faultAt at hbi ⊢
    rw [getD_lt hlt, getD_lt h2, getD_lt h1] at hbi ⊢
    simp (disch := omega) [if_pos, if_neg, iteK_pos, iteK_neg, hlt, h2, h1, PFault, hbi, eN_get, ePR_get0, ePR_get1, ePR_get2, ePR_get3]
    rw [iteK_pos (by kernel_rfl)]
    simp (disch := omega) [if_pos, if_neg, iteK_pos, iteK_neg, hlt, h2, h1, PFault, hbi, eN_get, ePR_get0, ePR_get1, ePR_get2, ePR_get3]
   ·obtain rfl : i = code.length := by omega
    by_cases hmj : m < jumps.length
    ·simp (disch := omega) [if_pos, if_neg, iteK_pos, iteK_neg, hmj, call_49, haim]
    ·obtain rfl : m = jumps.length := by omega
     simp (disch := omega) [if_pos, if_neg, iteK_pos, iteK_neg, call_49, haim, hnm]
     apply loop_next (dyn := [10]) hint_17_1 (by kernel_rfl)
     simp (disch := omega) [if_pos, if_neg, iteK_pos, iteK_neg, hnm]
     rw [lpB_eq]
     simp (disch := omega) [if_pos, if_neg, iteK_pos, iteK_neg, hnm]
     cases lent
     ·simp (disch := omega) [if_pos, if_neg, iteK_pos, iteK_neg]
      rw [view_tcells 47 s _ []]
      simp (disch := omega) [if_pos, if_neg, iteK_pos, iteK_neg, canon_lsts, procsV]
      have hc : cutCells (List.map (lst eW) (tgtN s jumps jumps.length)) 0 s.1.length 1 = List.map (lst eW) (tgtN s jumps jumps.length) := cutCells_all _ _ _ (by simp [tgtN_len])
      simp [hc, canon_lsts, tgtN_len]
     ·simp (disch := omega) [if_pos, if_neg, iteK_pos, iteK_neg, stripL_tCells, tRows_strip]
      rw [view_tcells 47 s _ []]
      simp (disch := omega) [if_pos, if_neg, iteK_pos, iteK_neg, canon_lsts, procsV]
      have hc : cutCells (List.map (lst eW) (tgtN s jumps jumps.length)) 0 s.1.length 1 = List.map (lst eW) (tgtN s jumps jumps.length) := cutCells_all _ _ _ (by simp [tgtN_len])
      simp [hc, canon_lsts, tgtN_len]
theorem first_bad (P : Nat → Prop) (n : Nat) : ∃ k, k ≤ n ∧ (∀ i, i < k → ¬ P i) ∧ (k < n → P k) := by
 induction n with
 | zero => exact ⟨0, by omega, by omega, by omega⟩
 | succ n ih =>
  obtain ⟨k, h1, h2, h3⟩ := ih
  by_cases hk : k < n
  ·exact ⟨k, by omega, h2, fun _ => h3 hk⟩
  ·obtain rfl : k = n := by omega
   by_cases hP : P k
   ·exact ⟨k, by omega, h2, fun _ => hP⟩
   ·refine ⟨k + 1, by omega, fun i hi => ?_, by omega⟩
    by_cases hi' : i < k
    ·exact h2 i hi'
    ·obtain rfl : i = k := by omega
     exact hP
structure FindOk (code : List Instr) (jumps : List Nat) : Prop where
 enc : encodes code
 pos : 0 < code.length
 first : (code.getD 0 default).op = 3
 faults : ∀ i, i < code.length → faultAt (cutF code) code i = 0
 jumps : ∀ i, i < jumps.length → ¬ badJ (cutF code) jumps i
structure CodeFits (code : List Instr) (jumps : List Nat) : Prop where
 ins : ∀ i ∈ code, insFits i
 len : jumps.length ≤ 35184372087808
 words : ∀ t ∈ jumps, t < 4294967296
theorem Find_ok {nm : V} (hnm : nm = .nilslice ∨ nm = .scon [] 0 0 false) {code : List Instr} {jumps : List Nat} (hf : CodeFits code jumps) (h : FindOk code jumps) : pureV E (om E) 17 false [lst eInstr code, lst eW jumps, nm] = some (.tuple [procsV (cutF code) (tgtN (cutF code) jumps jumps.length), ii 0, ii 0]) := by
 have := Find_walk false nm hnm code jumps hf.ins hf.len hf.words h.enc h.pos h.first code.length jumps.length (Nat.le_refl _) h.faults (by omega) (Nat.le_refl _) h.jumps (by omega)
 rw [this]
 simp [findR]
theorem faultF_lt (p i x) : faultF p i x < 140 := by
 unfold faultF
 repeat' split
 all_goals omega
end Go.Proofs.YtfplmcpkagpaiaaGreatDoor.Fl
end
section
namespace Go.Proofs.YtfplmcpkagpaiaaGreatDoor.Fl
open Go Go.Sim
theorem eq_pcon (x y : Operand) (c : List V) (o : Nat) : binO E .eql 64 x y (.pcon c o) .nilptr = some (.bool false) := by
 show binV E .eql 64 (.pcon c o) .nilptr = some (.bool false)
 have h : E.P.underlying 64 = some (.pointer 127) := by kernel_rfl
 unfold binV
 simp [eqV, h]
theorem clone_eW (L : Nat) (l : List Nat) (h : Heap) : cloneWL L 1 [lst eW l] h = if L < l.length then none else if l = [] then some (.scon [] 0 0 false, h) else
  some (.sref 0 (h.top.length + 1) 0 l.length 0 (1, false), (Go.Sim.newRow (h.push (.row [] 0 1 true true)) (cat eW l) 1).2) := clone_lst eW l h 1 rfl
theorem clone_eI (L : Nat) (l : List Instr) (h : Heap) : cloneWL L 2 [lst eInstr l] h = if L < l.length then none else if l = [] then some (.scon [] 0 0 false, h) else
  some (.sref 0 (h.top.length + 1) 0 l.length 0 (2, false), (Go.Sim.newRow (h.push (.row [] 0 2 true true)) (cat eInstr l) 2).2) := clone_lst eInstr l h 2 rfl
theorem ProcsOf (s : List PR × List Nat) (ts : List (List Nat)) (i : Nat) (hi : i < s.2.length) (hi' : i < 4294967296) : pureV E (om E) 78 false [procsV s ts, .int .u32 i] = some (ii s.2[i]) := by
 apply pu_78
 simp (disch := omega) [if_pos, if_neg, iteK_pos, iteK_neg, Tryz.f78, hi, procsV, eq_pcon]
theorem ProcsProc (s : List PR × List Nat) (ts : List (List Nat)) (i : Nat) (hi : i < s.1.length) : pureV E (om E) 77 false [procsV s ts, ii i] = some (.tuple [prV s.1[i], bb true]) := by
 apply pu_77
 simp (disch := omega) [if_pos, if_neg, iteK_pos, iteK_neg, Tryz.f77, hi, procsV, eq_pcon]
theorem ProcsTargets (s : List PR × List Nat) (ts : List (List Nat)) (i : Nat) (hi : i < s.1.length) (hl : ts.length = s.1.length) (hj : (ts[i]'(by omega)).length ≤ 35184372087808) : pureV E (om E) 126 false [procsV s ts, ii i] = some (lst eW (ts[i]'(by omega))) := by
 apply pu_126
 have hi2 : i < ts.length := by omega
 by_cases hl0 : ts[i] = []
 ·simp (disch := omega) [if_pos, if_neg, iteK_pos, iteK_neg, Tryz.f126, ProcsProc, hi, hi2, canon_lsts, clone_eW, hl0]
 ·simp (disch := omega) [if_pos, if_neg, iteK_pos, iteK_neg, Tryz.f126, ProcsProc, hi, hi2, canon_lsts, clone_eW, hl0]
abbrev graphV (code : List Instr) (jumps : List Nat) (s : List PR × List Nat) (ts : List (List Nat)) : V := .pcon [lst eInstr code, lst eW jumps, procsV s ts] 0
theorem GInfo (code jumps s ts) (i : Nat) (hi : i < code.length) : pureV E (om E) 107 false [graphV code jumps s ts, ii i] = some (rowV (rowOf code[i].op)) := by
 apply pu_107
 simp (disch := omega) [if_pos, if_neg, iteK_pos, iteK_neg, Tryz.f107, Info, hi, graphV, procsV, canon_lsts]
theorem GFound_ok {code : List Instr} {jumps : List Nat} (hf : CodeFits code jumps) (h : FindOk code jumps) : pureV E (om E) 51 false [lst eInstr code, lst eW jumps] = some (.tuple [graphV code jumps (cutF code) (tgtN (cutF code) jumps jumps.length), ii 0, ii 0]) := by
 apply pu_51
 have hF := Find_ok (.inr rfl) hf h
 have hl := h.enc.1
 have hj := hf.len
 have hne : code ≠ [] := by rintro rfl; have := h.pos; simp at this
 have hlen := tgtN_len (cutF code) jumps jumps.length
 generalize tgtN (cutF code) jumps jumps.length = ts at *
 generalize cutF code = s at *
 by_cases hj0 : jumps = []
 ·subst hj0
  rw [lst_nil] at hF ⊢
  simp (disch := omega) [if_pos, if_neg, iteK_pos, iteK_neg, Tryz.f51, hF, clone_eI, hne, canon_lsts, graphV, procsV]
 ·simp (disch := omega) [if_pos, if_neg, iteK_pos, iteK_neg, Tryz.f51, hF, clone_eI, clone_eW, hne, hj0, canon_lsts, graphV, procsV]
theorem Compact_ne (x y : Int) (h : x ≠ y) : callV E (om E) 125 [.sref 0 0 0 2 0 (1, true)] [[.row [.int .u32 x, .int .u32 y] 0 1 true true]] = some (.sref 0 0 0 2 0 (1, true), [[.row [.int .u32 x, .int .u32 y] 0 1 true true]]) := by
 rw [call_125]
 have key : bodyV E (om E) 125 (V.upL 1 [.sref 0 0 0 2 0 (1, true)]) ([] :: [[.row [.int .u32 x, .int .u32 y] 0 1 true true]]) = some (.sref 1 0 0 2 0 (1, true), [] :: [[.row [.int .u32 x, .int .u32 y] 0 1 true true]]) := by
  apply bo_125
  simp (disch := omega) [if_pos, if_neg, iteK_pos, iteK_neg, Tryz.f125]
  iterate 2
   apply loop_next (dyn := []) hint_125_0 (by kernel_rfl)
   simp (disch := omega) [if_pos, if_neg, iteK_pos, iteK_neg]
   rw [lpB_eq]
   simp (disch := omega) [if_pos, if_neg, iteK_pos, iteK_neg, h, Ne.symm h]
 rw [key]
 simp
theorem clear_one (x y : Int) : clearV Tryz.prog [[], [.row [.int .u32 x, .int .u32 y] 0 1 true true]] 23 (.sref 1 0 1 1 0 (1, true)) = some (V.undef, [[], [.row [.int .u32 x, .int .u32 0] 0 1 true true]]) := by
 unfold clearV
 rw [show Tryz.prog.underlying 23 = some (.slice 25) by kernel_rfl]
 simp [show zeroV Tryz.prog 25 = some (.int .u32 0) by kernel_rfl, show sizeV Tryz.prog 25 = some 1 by kernel_rfl, rep]
theorem Compact_eq (x : Int) : callV E (om E) 125 [.sref 0 0 0 2 0 (1, true)] [[.row [.int .u32 x, .int .u32 x] 0 1 true true]] = some (.sref 0 0 0 1 0 (1, false), [[.row [.int .u32 x, .int .u32 0] 0 1 true true]]) := by
 rw [call_125]
 have key : bodyV E (om E) 125 (V.upL 1 [.sref 0 0 0 2 0 (1, true)]) ([] :: [[.row [.int .u32 x, .int .u32 x] 0 1 true true]]) = some (.sref 1 0 0 1 0 (1, false), [] :: [[.row [.int .u32 x, .int .u32 0] 0 1 true true]]) := by
  apply bo_125
  simp (disch := omega) [if_pos, if_neg, iteK_pos, iteK_neg, Tryz.f125]
  apply loop_next (dyn := []) hint_125_0 (by kernel_rfl)
  simp (disch := omega) [if_pos, if_neg, iteK_pos, iteK_neg]
  rw [lpB_eq]
  simp (disch := omega) [if_pos, if_neg, iteK_pos, iteK_neg]
  apply loop_next (dyn := []) hint_125_1 (by kernel_rfl)
  simp (disch := omega) [if_pos, if_neg, iteK_pos, iteK_neg]
  rw [lpB_eq]
  simp (disch := omega) [if_pos, if_neg, iteK_pos, iteK_neg]
  rw [clear_one]
  simp (disch := omega) [if_pos, if_neg, iteK_pos, iteK_neg]
 rw [key]
 simp
def nextF (code : List Instr) (s : List PR × List Nat) (ts : List (List Nat)) (i : Nat) : List Nat :=
 let x := code.getD i default
 let k := kindF x.op
 if k = 1 ∨ k = 6 ∨ k = 5 then [i + 1]
 else if k = 2 then (if i + 1 = x.arg then [i + 1] else [min (i + 1) x.arg, max (i + 1) x.arg])
 else if k = 3 then [x.arg]
 else if k = 4 then ts.getD (s.2.getD i 0) []
 else []
theorem GNext (code jumps s ts) (i : Nat) (hi : i < code.length) (hl : code.length ≤ 16384) (h2 : s.2.length = code.length) (ho : ∀ p ∈ s.2, p < s.1.length) (ht : ts.length = s.1.length) (hj : ∀ l ∈ ts, l.length ≤ 35184372087808) :
  pureV E (om E) 108 false [graphV code jumps s ts, ii i] = some (lst eW (nextF code s ts i)) := by
 apply pu_108
 unfold nextF
 rw [getD_lt hi]
 dsimp only
 have hi2 : i < s.2.length := by omega
 have hp : s.2[i] < s.1.length := ho _ (List.getElem_mem hi2)
 have hp2 : s.2[i] < ts.length := by omega
 have hjl := hj _ (List.getElem_mem hp2)
 generalize hk : kindF code[i].op = k
 generalize hx : code[i].arg = a
 have e1 : ((i : Int) + 1) % 4294967296 = i + 1 := by omega
 have e2 : (i : Int) % 4294967296 = i := by omega
 by_cases h1 : k = 1
 ·subst h1; simp (disch := omega) [if_pos, if_neg, iteK_pos, iteK_neg, Tryz.f108, GInfo, kind_eq, hk, hi, hx, e1, e2, canon_lsts, graphV, procsV]
  rfl
 by_cases h6 : k = 6
 ·subst h6; simp (disch := omega) [if_pos, if_neg, iteK_pos, iteK_neg, Tryz.f108, GInfo, kind_eq, hk, hi, hx, e1, e2, canon_lsts, graphV, procsV]
  rfl
 by_cases h5 : k = 5
 ·subst h5; simp (disch := omega) [if_pos, if_neg, iteK_pos, iteK_neg, Tryz.f108, GInfo, kind_eq, hk, hi, hx, e1, e2, canon_lsts, graphV, procsV]
  rfl
 by_cases h2 : k = 2
 ·subst h2
  by_cases hle : i + 1 ≤ a
  ·by_cases heq : i + 1 = a
   ·simp (disch := omega) [if_pos, if_neg, iteK_pos, iteK_neg, Tryz.f108, GInfo, kind_eq, hk, hi, hx, e1, e2, canon_lsts, hle, heq, Compact_eq, graphV, procsV]
    subst heq
    rfl
   ·simp (disch := omega) [if_pos, if_neg, iteK_pos, iteK_neg, Tryz.f108, GInfo, kind_eq, hk, hi, hx, e1, e2, canon_lsts, hle, heq, Compact_ne, graphV, procsV]
    rfl
  ·simp (disch := omega) [if_pos, if_neg, iteK_pos, iteK_neg, Tryz.f108, GInfo, kind_eq, hk, hi, hx, e1, e2, canon_lsts, hle, Compact_ne, graphV, procsV]
   rfl
 by_cases h3 : k = 3
 ·subst h3; simp (disch := omega) [if_pos, if_neg, iteK_pos, iteK_neg, Tryz.f108, GInfo, kind_eq, hk, hi, hx, e1, e2, canon_lsts, graphV, procsV]
  rfl
 by_cases h4 : k = 4
 ·subst h4; simp (disch := omega) [if_pos, if_neg, iteK_pos, iteK_neg, Tryz.f108, GInfo, kind_eq, hk, hi, hx, e1, e2, canon_lsts, ProcsOf, ProcsTargets, hi2, hp, hp2, graphV, procsV]
 simp (disch := omega) [if_pos, if_neg, iteK_pos, iteK_neg, Tryz.f108, GInfo, kind_eq, hk, hi, hx, h1, h2, h3, h4, h5, h6, e1, e2, canon_lsts, graphV, procsV]
end Go.Proofs.YtfplmcpkagpaiaaGreatDoor.Fl
end
section
namespace Go.Proofs.YtfplmcpkagpaiaaGreatDoor.Fl
open Go Go.Sim
def eI : Enc Int where
 enc n := [ii n]
 k := 1
 pos := by omega
 len := fun _ => rfl
 canon := fun _ => by simp
 flat := fun _ => by simp
 ok := fun _ => by simp
@[simp] theorem eI_k : eI.k = 1 := rfl
@[simp] theorem eI_enc (n) : eI.enc n = [ii n] := rfl
@[simp] theorem plain_eI (l : List Int) : V.plainL (cat eI l) = true := cat_plain eI (fun _ => by simp) l
@[simp] theorem take_eI (l : List Int) (n : Nat) : (cat eI l).take n = cat eI (l.take n) := by simpa using cat_take eI l n
@[simp] theorem drop_eI (l : List Int) (n : Nat) : (cat eI l).drop n = cat eI (l.drop n) := by simpa using cat_drop eI l n
@[simp] theorem cut_eI (l : List Int) : cutCells (cat eI l) 0 l.length 1 = cat eI l := cut_all eI rfl rfl
@[simp] theorem fold_eI (l : List Int) : V.scon (cat eI l) 0 l.length false = lst eI l := rfl
theorem eI_get {l : List Int} {i : Nat} (h : i < l.length) : (cat eI l)[i]? = some (ii l[i]) := by
 have := cat_get eI l i 0 (by simp)
 simpa [h] using this
abbrev hpB (l junk : List Int) (ep : Nat) (q : Bool) (T : List Blk) : List Blk := .row (cat eI (l ++ junk)) ep 1 true true :: .row [.sref 0 0 0 l.length ep (1, q)] 0 1 false false :: T
theorem cat_eI_map (l : List Int) : cat eI l = l.map fun n => ii n := by
 induction l with
 | nil => rfl
 | cons x l ih => rw [cat_cons, ih]; rfl
theorem cat_eI_set (l : List Int) (i : Nat) (x : Int) : (cat eI l).set i (ii x) = cat eI (l.set i x) := by
 rw [cat_eI_map, cat_eI_map, List.map_set]
theorem mDeref {name : String} {f : FuncId} (hm : ((Tryz.prog.info? 191).bind fun i => (i.methods.find? (·.name == name)).map fun m => (m.path.isEmpty, m.func)) = some (true, some (f, false))) (h : Heap) (v : V) : methodV Tryz.prog h (.iface 191 v) name = (nilCheckV v).bind fun p => (loadV Tryz.prog h 192 p).map fun x => (f, x) := by
 simp only [Option.bind_eq_some_iff, Option.map_eq_some_iff, Prod.mk.injEq] at hm
 obtain ⟨i, hi, m, hm, hp, hf⟩ := hm
 unfold methodV
 simp only [hi, Option.bind_some, hm, hp, if_true, hf]
 rw [show Tryz.prog.underlying 191 = some (.pointer 192) by kernel_rfl]
theorem mPtr {name : String} {f : FuncId} (hm : ((Tryz.prog.info? 191).bind fun i => (i.methods.find? (·.name == name)).map fun m => (m.path.isEmpty, m.func)) = some (true, some (f, true))) (h : Heap) (v : V) : methodV Tryz.prog h (.iface 191 v) name = some (f, v) := by
 simp only [Option.bind_eq_some_iff, Option.map_eq_some_iff, Prod.mk.injEq] at hm
 obtain ⟨i, hi, m, hm, hp, hf⟩ := hm
 unfold methodV
 simp only [hi, Option.bind_some, hm, hp, if_true, hf]
 rw [show Tryz.prog.underlying 191 = some (.pointer 192) by kernel_rfl]
theorem mLen (h : Heap) (v : V) : methodV Tryz.prog h (.iface 191 v) "Len" = (nilCheckV v).bind fun p => (loadV Tryz.prog h 192 p).map fun x => (105, x) := mDeref (by kernel_rfl) h v
theorem mLess (h : Heap) (v : V) : methodV Tryz.prog h (.iface 191 v) "Less" = (nilCheckV v).bind fun p => (loadV Tryz.prog h 192 p).map fun x => (172, x) := mDeref (by kernel_rfl) h v
theorem mSwap (h : Heap) (v : V) : methodV Tryz.prog h (.iface 191 v) "Swap" = (nilCheckV v).bind fun p => (loadV Tryz.prog h 192 p).map fun x => (175, x) := mDeref (by kernel_rfl) h v
theorem mPop (h : Heap) (v : V) : methodV Tryz.prog h (.iface 191 v) "Pop" = some (173, v) := mPtr (by kernel_rfl) h v
theorem mPush (h : Heap) (v : V) : methodV Tryz.prog h (.iface 191 v) "Push" = some (174, v) := mPtr (by kernel_rfl) h v
theorem HLen (lent) (l : List Int) : pureV E (om E) 105 lent [lst eI l] = some (ii l.length) := by
 apply pu_105
 simp (disch := omega) [if_pos, if_neg, iteK_pos, iteK_neg, Tryz.f105]
theorem HLess (lent) (l : List Int) (i j : Nat) (hi : i < l.length) (hj : j < l.length) : pureV E (om E) 172 lent [lst eI l, ii i, ii j] = some (bb (decide (l[i] < l[j]))) := by
 apply pu_172
 simp (disch := omega) [if_pos, if_neg, iteK_pos, iteK_neg, Tryz.f172, hi, hj]
def swapF (l : List Int) (i j : Nat) : List Int := (l.set i (l.getD j 0)).set j (l.getD i 0)
theorem swapF_len (l i j) : (swapF l i j).length = l.length := by simp [swapF]
theorem HSwap (l junk : List Int) (ep : Nat) (q : Bool) (T : List Blk) (r : Heap) (i j : Nat) (hi : i < l.length) (hj : j < l.length) : callV E (om E) 175 [.sref 2 0 0 l.length ep (1, q), ii i, ii j] ([] :: [] :: hpB l junk ep q T :: r) = some (.tuple [], [] :: [] :: hpB (swapF l i j) junk ep q T :: r) := by
 rw [call_175]
 have key : bodyV E (om E) 175 (V.upL 1 [.sref 2 0 0 l.length ep (1, q), ii i, ii j]) ([] :: [] :: [] :: hpB l junk ep q T :: r) = some (.tuple [], [] :: [] :: [] :: hpB (swapF l i j) junk ep q T :: r) := by
  apply bo_175
  have hi2 : i < (l ++ junk).length := by simp; omega
  have hj2 : j < (l ++ junk).length := by simp; omega
  simp (disch := omega) [if_pos, if_neg, iteK_pos, iteK_neg, Tryz.f175, hi, hj, eI_get, hi2, hj2]
  constructor
  ·rw [cat_eI_set, cat_eI_set, List.set_append_left _ _ hi, List.set_append_left _ _ (by simpa using hj)]
   simp [swapF, hi, hj]
  ·simp [swapF]
 rw [key]
 simp
theorem HSwap1 (l junk : List Int) (ep : Nat) (q : Bool) (T : List Blk) (r : Heap) (i j : Nat) (hi : i < l.length) (hj : j < l.length) : callV E (om E) 175 [.sref 1 0 0 l.length ep (1, q), ii i, ii j] ([] :: hpB l junk ep q T :: r) = some (.tuple [], [] :: hpB (swapF l i j) junk ep q T :: r) := by
 rw [call_175]
 have key : bodyV E (om E) 175 (V.upL 1 [.sref 1 0 0 l.length ep (1, q), ii i, ii j]) ([] :: [] :: hpB l junk ep q T :: r) = some (.tuple [], [] :: [] :: hpB (swapF l i j) junk ep q T :: r) := by
  apply bo_175
  have hi2 : i < (l ++ junk).length := by simp; omega
  have hj2 : j < (l ++ junk).length := by simp; omega
  simp (disch := omega) [if_pos, if_neg, iteK_pos, iteK_neg, Tryz.f175, hi, hj, eI_get, hi2, hj2]
  constructor
  ·rw [cat_eI_set, cat_eI_set, List.set_append_left _ _ hi, List.set_append_left _ _ (by simpa using hj)]
   simp [swapF, hi, hj]
  ·simp [swapF]
 rw [key]
 simp
theorem HLessI (lent) (l : List Int) (i j : Nat) (x y : Int) (hx : x = i) (hy : y = j) (hi : i < l.length) (hj : j < l.length) : pureV E (om E) 172 lent [lst eI l, ii x, ii y] = some (bb (decide (l[i] < l[j]))) := by
 subst hx hy; exact HLess lent l i j hi hj
theorem HSwapI (l junk : List Int) (ep : Nat) (q : Bool) (T : List Blk) (r : Heap) (i j : Nat) (x y : Int) (hx : x = i) (hy : y = j) (hi : i < l.length) (hj : j < l.length) : callV E (om E) 175 [.sref 2 0 0 l.length ep (1, q), ii x, ii y] ([] :: [] :: hpB l junk ep q T :: r) = some (.tuple [], [] :: [] :: hpB (swapF l i j) junk ep q T :: r) := by
 subst hx hy; exact HSwap l junk ep q T r i j hi hj
theorem HSwapI1 (l junk : List Int) (ep : Nat) (q : Bool) (T : List Blk) (r : Heap) (i j : Nat) (x y : Int) (hx : x = i) (hy : y = j) (hi : i < l.length) (hj : j < l.length) : callV E (om E) 175 [.sref 1 0 0 l.length ep (1, q), ii x, ii y] ([] :: hpB l junk ep q T :: r) = some (.tuple [], [] :: hpB (swapF l i j) junk ep q T :: r) := by
 subst hx hy; exact HSwap1 l junk ep q T r i j hi hj
theorem upIf_f1 (vs : List V) : V.upIf false 1 vs = V.upL 1 vs := rfl
theorem upIf_f2 (vs : List V) : V.upIf false 2 vs = V.upL 2 vs := rfl
theorem cut_pre (l junk : List Int) : cutCells (cat eI (l ++ junk)) 0 l.length 1 = cat eI l := by
 have := cat_cut eI (l ++ junk) 0 l.length
 simpa using this
def pickJ (n : Nat) (l : List Int) (i : Nat) : Nat := if 2 * i + 2 < n ∧ l.getD (2 * i + 2) 0 < l.getD (2 * i + 1) 0 then 2 * i + 2 else 2 * i + 1
def downN (n : Nat) : Nat → List Int → Nat → List Int × Nat
 | 0, l, i => (l, i)
 | fuel + 1, l, i =>
  if n ≤ 2 * i + 1 then (l, i)
  else if l.getD (pickJ n l i) 0 < l.getD i 0 then downN n fuel (swapF l i (pickJ n l i)) (pickJ n l i) else (l, i)
abbrev downSlots (n i : Nat) : List V := [.iface 191 (.pref 2 1 0 0), ii 0, ii n, xx, xx, xx, .bool false, ii i, xx, xx, xx, ii 0] ++ pois 36
theorem HDown (l junk : List Int) (ep : Nat) (q : Bool) (T : List Blk) (r : Heap) (n : Nat) (hn : n ≤ l.length) (hl : l.length ≤ 1099511627776) : callV E (om E) 124 [.iface 191 (.pref 1 1 0 0), ii 0, ii n] ([] :: hpB l junk ep q T :: r) = some (.bool (decide (0 < (downN n n l 0).2)), [] :: hpB (downN n n l 0).1 junk ep q T :: r) := by
 rw [call_124]
 have key : bodyV E (om E) 124 (V.upL 1 [.iface 191 (.pref 1 1 0 0), ii 0, ii n]) ([] :: [] :: hpB l junk ep q T :: r) = some (.bool (decide (0 < (downN n n l 0).2)), [] :: [] :: hpB (downN n n l 0).1 junk ep q T :: r) := by
  apply bo_124
  simp (disch := omega) [if_pos, if_neg, iteK_pos, iteK_neg, Tryz.f124]
  refine loop_use (dyn := []) (fun (a : List Int × Nat × Nat) => downSlots n a.2.1)
   (fun a => [] :: [] :: hpB a.1 junk ep q T :: r) (fun a => a.1.length = l.length ∧ a.2.1 ≤ n ∧ n ≤ a.2.1 + a.2.2 ∧ downN n a.2.2 a.1 a.2.1 = downN n n l 0) (fun a => a.2.2) hint_124_0 (by kernel_rfl) ?_ (l, 0, n) ⟨rfl, by simp, by simp, rfl⟩ (by simp [downSlots])
  rintro ⟨m, i, f⟩ ⟨h1, h0, h2, h3⟩ IH
  rw [lpB_eq]
  dsimp only at h1 h0 h2 h3 ⊢
  by_cases c1 : n ≤ 2 * i + 1
  ·have hres : downN n n l 0 = (m, i) := by
    rw [← h3]
    cases f with
    | zero => rfl
    | succ f => rw [downN, if_pos c1]
   rw [hres]
   simp (disch := omega) [if_pos, if_neg, iteK_pos, iteK_neg, c1]
  ·obtain ⟨f, rfl⟩ : ∃ f', f = f' + 1 := Nat.exists_eq_succ_of_ne_zero (by omega)
   rw [downN, if_neg c1] at h3
   have hm1 : 2 * i + 1 < m.length := by omega
   have hm0 : i < m.length := by omega
   have A3 := fun lent => HLessI lent m (2 * i + 1) i (2 * (i : Int) + 1) i (by omega) rfl hm1 hm0
   have B3 := HSwapI m junk ep q T r i (2 * i + 1) i (2 * (i : Int) + 1) rfl (by omega) hm0 hm1
   by_cases c23 : 2 * i + 2 < n ∧ m.getD (2 * i + 2) 0 < m.getD (2 * i + 1) 0
   ·have hJ : pickJ n m i = 2 * i + 2 := if_pos c23
    obtain ⟨c2, c3⟩ := c23
    have hm2 : 2 * i + 2 < m.length := by omega
    have A1 := fun lent => HLessI lent m (2 * i + 2) (2 * i + 1) (2 * (i : Int) + 1 + 1) (2 * (i : Int) + 1) (by omega) (by omega) hm2 hm1
    have A2 := fun lent => HLessI lent m (2 * i + 2) i (2 * (i : Int) + 1 + 1) i (by omega) rfl hm2 hm0
    have B2 := HSwapI m junk ep q T r i (2 * i + 2) i (2 * (i : Int) + 1 + 1) rfl (by omega) hm0 hm2
    rw [getD_lt hm2, getD_lt hm1] at c3
    rw [hJ, getD_lt hm2, getD_lt hm0] at h3
    by_cases c4 : m[2 * i + 2] < m[i]
    ·rw [if_pos c4] at h3
     simp (disch := omega) [if_pos, if_neg, iteK_pos, iteK_neg, c1, c2, c3, c4, mLess, mSwap, A1, A2, B2, upIf_f1, upIf_f2, cut_pre]
     exact IH (swapF m i (2 * i + 2), 2 * i + 2, f) _ _ ⟨by simp only [swapF_len, h1], by dsimp only; omega, by dsimp only; omega, h3⟩ (by dsimp only; omega) (by simp [downSlots, show (2 : Int) * i + 1 + 1 = 2 * i + 2 by omega])
    ·rw [if_neg c4] at h3
     simp (disch := omega) [if_pos, if_neg, iteK_pos, iteK_neg, c1, c2, c3, c4, mLess, mSwap, A1, A2, ← h3, upIf_f1, upIf_f2, cut_pre]
   ·have hJ : pickJ n m i = 2 * i + 1 := if_neg c23
    rw [hJ, getD_lt hm1, getD_lt hm0] at h3
    by_cases c4 : m[2 * i + 1] < m[i]
    ·rw [if_pos c4] at h3
     by_cases c2 : 2 * i + 2 < n
     ·have hm2 : 2 * i + 2 < m.length := by omega
      have A1 := fun lent => HLessI lent m (2 * i + 2) (2 * i + 1) (2 * (i : Int) + 1 + 1) (2 * (i : Int) + 1) (by omega) (by omega) hm2 hm1
      have c3 : ¬ m[2 * i + 2] < m[2 * i + 1] := by
       intro hc; refine c23 ⟨c2, ?_⟩; rw [getD_lt hm2, getD_lt hm1]; exact hc
      simp (disch := omega) [if_pos, if_neg, iteK_pos, iteK_neg, c1, c2, c3, c4, mLess, mSwap, A1, A3, B3, upIf_f1, upIf_f2, cut_pre]
      exact IH (swapF m i (2 * i + 1), 2 * i + 1, f) _ _ ⟨by simp only [swapF_len, h1], by dsimp only; omega, by dsimp only; omega, h3⟩ (by dsimp only; omega) (by simp [downSlots])
     ·simp (disch := omega) [if_pos, if_neg, iteK_pos, iteK_neg, c1, c2, c4, mLess, mSwap, A3, B3, upIf_f1, upIf_f2, cut_pre]
      exact IH (swapF m i (2 * i + 1), 2 * i + 1, f) _ _ ⟨by simp only [swapF_len, h1], by dsimp only; omega, by dsimp only; omega, h3⟩ (by dsimp only; omega) (by simp [downSlots])
    ·rw [if_neg c4] at h3
     by_cases c2 : 2 * i + 2 < n
     ·have hm2 : 2 * i + 2 < m.length := by omega
      have A1 := fun lent => HLessI lent m (2 * i + 2) (2 * i + 1) (2 * (i : Int) + 1 + 1) (2 * (i : Int) + 1) (by omega) (by omega) hm2 hm1
      have c3 : ¬ m[2 * i + 2] < m[2 * i + 1] := by
       intro hc; refine c23 ⟨c2, ?_⟩; rw [getD_lt hm2, getD_lt hm1]; exact hc
      simp (disch := omega) [if_pos, if_neg, iteK_pos, iteK_neg, c1, c2, c3, c4, mLess, mSwap, A1, A3, ← h3, upIf_f1, upIf_f2, cut_pre]
     ·simp (disch := omega) [if_pos, if_neg, iteK_pos, iteK_neg, c1, c2, c4, mLess, mSwap, A3, ← h3, upIf_f1, upIf_f2, cut_pre]
 rw [key]
 simp
def upN : Nat → List Int → Nat → List Int
 | 0, l, j => l
 | fuel + 1, l, j => if j = 0 then l else if l.getD j 0 < l.getD ((j - 1) / 2) 0 then upN fuel (swapF l ((j - 1) / 2) j) ((j - 1) / 2) else l
abbrev upSlots (j : Nat) : List V := [.iface 191 (.pref 2 1 0 0), ii j, xx, xx] ++ pois 19
theorem HUp (l junk : List Int) (ep : Nat) (q : Bool) (T : List Blk) (r : Heap) (j0 : Nat) (hj0 : j0 < l.length) (hl : l.length ≤ 1099511627776) : callV E (om E) 127 [.iface 191 (.pref 1 1 0 0), ii j0] ([] :: hpB l junk ep q T :: r) = some (.tuple [], [] :: hpB (upN (j0 + 1) l j0) junk ep q T :: r) := by
 rw [call_127]
 have key : bodyV E (om E) 127 (V.upL 1 [.iface 191 (.pref 1 1 0 0), ii j0]) ([] :: [] :: hpB l junk ep q T :: r) = some (.tuple [], [] :: [] :: hpB (upN (j0 + 1) l j0) junk ep q T :: r) := by
  apply bo_127
  simp (disch := omega) [if_pos, if_neg, iteK_pos, iteK_neg, Tryz.f127]
  refine loop_use (dyn := []) (fun (a : List Int × Nat × Nat) => upSlots a.2.1)
   (fun a => [] :: [] :: hpB a.1 junk ep q T :: r) (fun a => a.1.length = l.length ∧ a.2.1 ≤ j0 ∧ a.2.1 < a.2.2 ∧ upN a.2.2 a.1 a.2.1 = upN (j0 + 1) l j0) (fun a => a.2.2) hint_127_0 (by kernel_rfl) ?_ (l, j0, j0 + 1) ⟨rfl, by simp, by simp, rfl⟩ (by simp [upSlots])
  rintro ⟨m, j, f⟩ ⟨h1, h0, h2, h3⟩ IH
  rw [lpB_eq]
  dsimp only at h1 h0 h2 h3 ⊢
  obtain ⟨f, rfl⟩ : ∃ f', f = f' + 1 := Nat.exists_eq_succ_of_ne_zero (by omega)
  rw [upN] at h3
  by_cases c0 : j = 0
  ·rw [if_pos c0] at h3
   subst c0
   simp (disch := omega) [if_pos, if_neg, iteK_pos, iteK_neg, h3]
  ·rw [if_neg c0] at h3
   have hm1 : j < m.length := by omega
   have hm0 : (j - 1) / 2 < m.length := by omega
   have e1 : ((j : Int) - 1) / 2 = (((j - 1) / 2 : Nat) : Int) := by omega
   have A1 := fun lent => HLess lent m j ((j - 1) / 2) hm1 hm0
   have B1 := HSwap m junk ep q T r ((j - 1) / 2) j hm0 hm1
   rw [getD_lt hm1, getD_lt hm0] at h3
   generalize hi : (j - 1) / 2 = i at *
   by_cases c4 : m[j] < m[i]
   ·rw [if_pos c4] at h3
    simp (disch := omega) [if_pos, if_neg, iteK_pos, iteK_neg, c0, c4, mLess, mSwap, A1, B1, e1, upIf_f1, upIf_f2, cut_pre]
    exact IH (swapF m i j, i, f) _ _ ⟨by simp only [swapF_len, h1], by dsimp only; omega, by dsimp only; omega, h3⟩ (by dsimp only; omega) (by simp [upSlots])
   ·rw [if_neg c4] at h3
    simp (disch := omega) [if_pos, if_neg, iteK_pos, iteK_neg, c0, c4, mLess, mSwap, A1, ← h3, e1, upIf_f1, upIf_f2, cut_pre]
 rw [key]
 simp
theorem HPopM (l junk : List Int) (x : Int) (ep : Nat) (q : Bool) (T : List Blk) (r : Heap) (hl : l.length ≤ 1099511627776) : callV E (om E) 173 [.pref 1 1 0 0] ([] :: hpB (l ++ [x]) junk ep q T :: r) = some (.iface 3 (ii x), [] :: hpB l (x :: junk) ep false T :: r) := by
 rw [call_173]
 have key : bodyV E (om E) 173 (V.upL 1 [.pref 1 1 0 0]) ([] :: [] :: hpB (l ++ [x]) junk ep q T :: r) = some (.iface 3 (ii x), [] :: [] :: hpB l (x :: junk) ep false T :: r) := by
  apply bo_173
  have hg : (cat eI (l ++ x :: junk))[l.length]? = some (ii x) := by rw [eI_get (by simp)]; simp
  simp (disch := omega) [if_pos, if_neg, iteK_pos, iteK_neg, Tryz.f173, upIf_f1, upIf_f2, hg]
 rw [key]
 simp
theorem HPushM (l junk : List Int) (x : Int) (ep : Nat) (T : List Blk) (r : Heap) (hl : l.length ≤ 1099511627776) : callV E (om E) 174 [.pref 1 1 0 0, .iface 3 (ii x)] ([] :: hpB l junk ep false T :: r) = some (.tuple [], [] :: hpB (l ++ [x]) [] (ep + 1) false T :: r) := by
 rw [call_174]
 have key : bodyV E (om E) 174 (V.upL 1 [.pref 1 1 0 0, .iface 3 (ii x)]) ([] :: [] :: hpB l junk ep false T :: r) = some (.tuple [], [Blk.row [ii x] 0 1 true true] :: [] :: hpB (l ++ [x]) [] (ep + 1) false T :: r) := by
  apply bo_174
  simp (disch := omega) [if_pos, if_neg, iteK_pos, iteK_neg, Tryz.f174, upIf_f1, upIf_f2]
  rw [cat_append]; rfl
 rw [key]
 simp
def popF (l : List Int) : Int × List Int :=
 let m := (downN (l.length - 1) (l.length - 1) (swapF l 0 (l.length - 1)) 0).1
 (m.getD (l.length - 1) 0, m.take (l.length - 1))
def pushF (l : List Int) (x : Int) : List Int := upN (l.length + 1) (l ++ [x]) l.length
theorem downN_len (n : Nat) : ∀ f l i, (downN n f l i).1.length = l.length
 | 0, l, i => rfl
 | f + 1, l, i => by
  rw [downN]; split
  ·rfl
  ·split
   ·rw [downN_len n f]; exact swapF_len _ _ _
   ·rfl
theorem swapF_perm (l : List Int) (i j : Nat) (hi : i < l.length) (hj : j < l.length) : (swapF l i j).Perm l := by
 unfold swapF
 rw [getD_lt hi, getD_lt hj]
 exact List.set_set_perm hi hj
theorem HPop (l junk : List Int) (ep : Nat) (q : Bool) (T : List Blk) (r : Heap) (h0 : 0 < l.length) (hl : l.length ≤ 1099511627776) : callV E (om E) 106 [.iface 191 (.pref 0 1 0 0)] (hpB l junk ep q T :: r) = some (.iface 3 (ii (popF l).1), hpB (popF l).2 ((popF l).1 :: junk) ep false T :: r) := by
 rw [call_106]
 have e1 : (l.length : Int) - 1 = ((l.length - 1 : Nat) : Int) := by omega
 have B1 := HSwapI1 l junk ep q T r 0 (l.length - 1) 0 ((l.length - 1 : Nat) : Int) rfl rfl (by omega) (by omega)
 have hs : (swapF l 0 (l.length - 1)).length = l.length := swapF_len _ _ _
 have D1 := HDown (swapF l 0 (l.length - 1)) junk ep q T r (l.length - 1) (by omega) (by omega)
 have hd : (downN (l.length - 1) (l.length - 1) (swapF l 0 (l.length - 1)) 0).1.length = l.length := by rw [downN_len, hs]
 have hp : (popF l) = ((downN (l.length - 1) (l.length - 1) (swapF l 0 (l.length - 1)) 0).1.getD (l.length - 1) 0, (downN (l.length - 1) (l.length - 1) (swapF l 0 (l.length - 1)) 0).1.take (l.length - 1)) := rfl
 generalize hm : downN (l.length - 1) (l.length - 1) (swapF l 0 (l.length - 1)) 0 = mm at *
 obtain ⟨m, fi⟩ := mm
 dsimp only at *
 obtain ⟨ls, x, hx⟩ : ∃ ls x, m = ls ++ [x] := ⟨m.dropLast, m.getLast (by intro h; rw [h] at hd; simp at hd; omega), (List.dropLast_concat_getLast _).symm⟩
 have hls : ls.length = l.length - 1 := by rw [hx, List.length_append, List.length_singleton] at hd; omega
 have hp1 : popF l = (x, ls) := by
  rw [hp, hx, ← hls]; simp [List.getD]
 have P1 := HPopM ls junk x ep q T r (by omega)
 rw [hp1]
 rw [hx] at D1
 have key : bodyV E (om E) 106 (V.upL 1 [.iface 191 (.pref 0 1 0 0)]) ([] :: hpB l junk ep q T :: r) = some (.iface 3 (ii x), [] :: hpB ls (x :: junk) ep false T :: r) := by
  apply bo_106
  simp (disch := omega) [if_pos, if_neg, iteK_pos, iteK_neg, Tryz.f106, mLen, mSwap, mPop, upIf_f1, cut_pre, HLen, e1, B1, D1, P1]
 rw [key]
 simp
theorem HPush (l junk : List Int) (x : Int) (ep : Nat) (T : List Blk) (r : Heap) (hl : l.length < 1099511627776) : callV E (om E) 109 [.iface 191 (.pref 0 1 0 0), .iface 3 (ii x)] (hpB l junk ep false T :: r) = some (.tuple [], hpB (pushF l x) [] (ep + 1) false T :: r) := by
 rw [call_109]
 have P1 := HPushM l junk x ep T r (by omega)
 have U1 := HUp (l ++ [x]) [] (ep + 1) false T r l.length (by simp) (by simp; omega)
 have key : bodyV E (om E) 109 (V.upL 1 [.iface 191 (.pref 0 1 0 0), .iface 3 (ii x)]) ([] :: hpB l junk ep false T :: r) = some (.tuple [], [] :: hpB (pushF l x) [] (ep + 1) false T :: r) := by
  apply bo_109
  have hv : V.scon (V.canonL (cutCells (cat eI (l ++ [x])) 0 (l.length + 1) 1)) 0 (l.length + 1) false = lst eI (l ++ [x]) := res_lst eI (by simp) rfl
  simp (disch := omega) [if_pos, if_neg, iteK_pos, iteK_neg, Tryz.f109, mLen, mPush, upIf_f1, cut_pre, HLen, P1, hv, U1, pushF]
 rw [key]
 simp
end Go.Proofs.YtfplmcpkagpaiaaGreatDoor.Fl
end
section
namespace Go.Proofs.YtfplmcpkagpaiaaGreatDoor.Fl
open Go Go.Sim
theorem and_mask (n : Nat) (hl : n < 4294967296) : andI 64 n 4294967295 = n := by
 unfold andI
 rw [show (4294967295 : Int) = ((4294967295 : Nat) : Int) from rfl, BitVec.ofInt_natCast, BitVec.ofInt_natCast, BitVec.toNat_and, BitVec.toNat_ofNat, BitVec.toNat_ofNat, show 4294967295 % 2 ^ 64 = 2 ^ 32 - 1 from rfl, Nat.and_two_pow_sub_one_eq_mod]
 omega
theorem make_ints (B : List Blk) (r : Heap) (n : Nat) (hn : n ≤ 16384) : makeSliceV Tryz.prog (B :: r) 67 (ii n) (ii n) = some (.sref 0 B.length 0 n 0 (1, true), (B ++ [.row (cat eI (List.replicate n 0)) 0 1 true true]) :: r) := by
 unfold makeSliceV
 rw [show Tryz.prog.underlying 67 = some (.slice 3) by kernel_rfl]
 dsimp only
 rw [show zeroV Tryz.prog 3 = some (ii 0) by kernel_rfl, show bytesV Tryz.prog 3 = some 8 by kernel_rfl, show sizeV Tryz.prog 3 = some 1 by kernel_rfl]
 have hc : V.cells (ii 0) = eI.enc 0 := by simp
 have hr : rep (eI.enc 0) n = cat eI (List.replicate n 0) := rep_cat eI 0 n
 simp only [Option.bind_some, hc, newRow, Int.toNat_natCast, hr]
 rw [if_pos (by simp; omega)]
 simp [Heap.push, Heap.top, Heap.setTop]
theorem Mul64_one (lent) (n : Nat) (hl : n ≤ 16384) : pureV E (om E) 123 lent [.int .u64 1, .int .u64 n] = some (.tuple [.int .u64 0, .int .u64 n]) := by
 apply pu_123
 have h1 := and_mask n (by omega)
 have h2 : andI 64 1 4294967295 = 1 := by decide
 have h3 : (n : Int).fdiv 4294967296 = 0 := by rw [Int.fdiv_eq_ediv_of_nonneg _ (by omega)]; omega
 have h4 : andI 64 0 4294967295 = 0 := by decide
 simp (disch := omega) [if_pos, if_neg, iteK_pos, iteK_neg, Tryz.f123, h1, h2, h3, h4]
theorem Mul_one (lent) (n : Nat) (hl : n ≤ 16384) : pureV E (om E) 103 lent [.int .u64 1, .int .u64 n] = some (.tuple [.int .u64 0, .int .u64 n]) := by
 apply pu_103
 simp (disch := omega) [if_pos, if_neg, iteK_pos, iteK_neg, Tryz.f103, Mul64_one, hl]
abbrev repSlots (n k : Nat) : List V := [lst eI [-1], ii n, xx, xx, V.nilslice, V.int IntKind.u64 0, V.int IntKind.u64 n, V.sref 0 0 0 n 0 (1, true),
    ii k, ii n, V.bool (decide ((n : Int) < 0)), xx, V.tuple [V.int IntKind.u64 0, V.int IntKind.u64 n],
    lst eI [-1], V.int IntKind.i64 1, V.int IntKind.u64 1, ii n, V.int IntKind.u64 n,
    V.tuple [V.int IntKind.u64 0, V.int IntKind.u64 n], V.int IntKind.u64 0, V.int IntKind.u64 n,
    V.int IntKind.u64 0, V.bool false, V.bool false, V.int IntKind.u64 n,
    V.bool (decide (9223372036854775807 < (n : Int))), V.bool (decide (9223372036854775807 < (n : Int))), xx,
    V.int IntKind.u64 n, ii n, V.sref 0 0 0 n 0 (1, true), V.sref 0 0 0 n 0 (1, true), lst eI [-1],
    V.int IntKind.i64 1] ++ pois 14
def repL (n k : Nat) : List Int := List.replicate k (-1) ++ List.replicate (n - k) 0
theorem repL_len {n k : Nat} (h : k ≤ n) : (repL n k).length = n := by simp [repL]; omega
theorem repL_step {n k c : Nat} (h : k ≤ n) (hc : c = min k (n - k)) : (repL n k).take k ++ ((repL n k).take c ++ (repL n k).drop (k + c)) = repL n (k + c) := by
 have hck : c ≤ k := by omega
 have e1 : (repL n k).take k = List.replicate k (-1) := by rw [repL, List.take_append_of_le_length (by simp), List.take_of_length_le (by simp)]
 have e2 : (repL n k).take c = List.replicate c (-1) := by rw [repL, List.take_append_of_le_length (by simpa using hck)]; simp; omega
 have e3 : (repL n k).drop (k + c) = List.replicate (n - (k + c)) 0 := by
  rw [repL, List.drop_append, List.drop_of_length_le (by simp)]; simp; omega
 rw [e1, e2, e3, repL, ← List.replicate_append_replicate, List.append_assoc]
theorem Repeat_body (n : Nat) (hn : 0 < n) (hl : n ≤ 16384) : bodyV E (om E) 79 [lst eI [-1], ii n] [[]] = some (.sref 0 0 0 n 0 (1, true), [[.row (cat eI (List.replicate n (-1))) 0 1 true true]]) := by
 apply bo_79
 simp (disch := omega) [if_pos, if_neg, iteK_pos, iteK_neg, Tryz.f79, Mul_one, hl, make_ints]
 refine loop_use (dyn := [9]) (fun (k : Nat) => repSlots n k) (fun k => [[.row (cat eI (repL n k)) 0 1 true true]]) (fun k => 0 < k ∧ k ≤ n) (fun k => n - k) hint_79_0 (by kernel_rfl) ?_ 1 ⟨by omega, by omega⟩ (by
  rw [← cat_append]
  simp [repSlots, repL])
 rintro k ⟨h0, hk⟩ IH
 rw [lpB_eq]
 by_cases hkn : k < n
 ·have hlen := repL_len hk
  simp (disch := omega) [if_pos, if_neg, iteK_pos, iteK_neg, hkn, hlen]
  rw [iteK_pos (by kernel_rfl)]
  simp (disch := omega) [if_pos, if_neg, iteK_pos, iteK_neg, hkn, hlen]
  rw [← cat_append, ← cat_append, repL_step hk rfl]
  refine IH (k + min k (n - k)) _ _ (by omega) (by omega) ?_
  simp [repSlots]
 ·obtain rfl : k = n := by omega
  have e : repL k k = List.replicate k (-1) := by simp [repL]
  simp (disch := omega) [if_pos, if_neg, iteK_pos, iteK_neg, e]
theorem Repeat_at {s : V} {n : Nat} {B : List Blk} {r : Heap} (hv : viewArgs (B :: r) [s, ii n] = some [lst eI [-1], ii n]) (hn : 0 < n) (hl : n ≤ 16384) :
  callV E (om E) 79 [s, ii n] (B :: r) = some (.sref 0 B.length 0 n 0 (1, true), (B ++ [.row (cat eI (List.replicate n (-1))) 0 1 true true]) :: r) := by
 rw [call_79, hv]
 simp (disch := omega) [if_pos, if_neg, iteK_pos, iteK_neg, Repeat_body n hn hl]
end Go.Proofs.YtfplmcpkagpaiaaGreatDoor.Fl
end
section
namespace Go.Proofs.YtfplmcpkagpaiaaGreatDoor.Fl
open Go Go.Sim
theorem pickJ_lt {n : Nat} {l : List Int} {i : Nat} (h : 2 * i + 1 < n) : pickJ n l i < n := by
 unfold pickJ; split <;> omega
theorem downN_perm (n : Nat) : ∀ f (l : List Int) i, n ≤ l.length → i ≤ n → (downN n f l i).1.Perm l
 | 0, l, i, _, _ => List.Perm.refl _
 | f + 1, l, i, hn, hi => by
  rw [downN]; split
  ·exact List.Perm.refl _
  ·rename_i hc
   have hp := pickJ_lt (l := l) (show 2 * i + 1 < n by omega)
   split
   ·exact (downN_perm n f _ _ (by rw [swapF_len]; exact hn) (by omega)).trans (swapF_perm l _ _ (by omega) (by omega))
   ·exact List.Perm.refl _
theorem upN_perm : ∀ f (l : List Int) j, j < l.length → (upN f l j).Perm l
 | 0, l, j, _ => List.Perm.refl _
 | f + 1, l, j, hj => by
  rw [upN]; split
  ·exact List.Perm.refl _
  ·split
   ·exact (upN_perm f _ _ (by rw [swapF_len]; omega)).trans (swapF_perm l _ _ (by omega) (by omega))
   ·exact List.Perm.refl _
theorem pushF_perm (l : List Int) (x : Int) : (pushF l x).Perm (x :: l) := by
 unfold pushF
 exact (upN_perm _ _ _ (by simp)).trans (List.perm_append_singleton x l)
theorem popF_perm {l : List Int} (h : 0 < l.length) : ((popF l).1 :: (popF l).2).Perm l := by
 have h1 := (downN_perm (l.length - 1) (l.length - 1) (swapF l 0 (l.length - 1)) 0 (by rw [swapF_len]; omega) (by omega)).trans (swapF_perm l 0 (l.length - 1) h (by omega))
 have hl : (downN (l.length - 1) (l.length - 1) (swapF l 0 (l.length - 1)) 0).1.length = l.length := by rw [downN_len, swapF_len]
 unfold popF
 dsimp only
 generalize (downN (l.length - 1) (l.length - 1) (swapF l 0 (l.length - 1)) 0).1 = m at *
 rw [getD_lt (by omega)]
 have e : m = m.take (l.length - 1) ++ [m[l.length - 1]'(by omega)] := by
  have : m.drop (l.length - 1) = [m[l.length - 1]'(by omega)] := by
   rw [List.drop_eq_getElem_cons (by omega), List.drop_of_length_le (by omega)]
  rw [← this, List.take_append_drop]
 refine List.Perm.trans ?_ h1
 refine List.Perm.trans (List.perm_append_singleton _ _).symm ?_
 rw [← e]
theorem popF_len {l : List Int} (h : 0 < l.length) : (popF l).2.length + 1 = l.length := by
 have := (popF_perm h).length_eq
 simpa using this
theorem pushF_len (l : List Int) (x : Int) : (pushF l x).length = l.length + 1 := by
 have := (pushF_perm l x).length_eq
 simpa using this
def neg (ds : List Int) : Nat := ds.countP (· < 0)
theorem neg_set {v : Int} (hv : 0 ≤ v) : ∀ {ds : List Int} {n : Nat} (h : n < ds.length), ds[n] < 0 → neg (ds.set n v) + 1 = neg ds
 | [], n, h, _ => by simp at h
 | x :: ds, 0, h, hx => by
  simp only [List.getElem_cons_zero] at hx
  have hv' : ¬ v < 0 := by omega
  simp [neg, List.countP_cons, hx, hv']
 | x :: ds, n + 1, h, hx => by
  have ih := neg_set hv (ds := ds) (n := n) (by simpa using h) (by simpa using hx)
  simp only [neg] at ih
  simp only [neg, List.set_cons_succ, List.countP_cons]
  omega
theorem neg_lt : ∀ {ds : List Int} {n : Nat} (h : n < ds.length), 0 ≤ ds[n] → neg ds + 1 ≤ ds.length
 | [], n, h, _ => by simp at h
 | x :: ds, 0, h, hx => by
  simp only [List.getElem_cons_zero] at hx
  have hv' : ¬ x < 0 := by omega
  have := List.countP_le_length (p := fun v : Int => decide (v < 0)) (l := ds)
  simp only [neg, List.countP_cons, hv', decide_false, List.length_cons]
  simp; omega
 | x :: ds, n + 1, h, hx => by
  have ih := neg_lt (ds := ds) (n := n) (by simpa using h) (by simpa using hx)
  simp only [neg] at ih
  simp only [neg, List.countP_cons, List.length_cons]
  split <;> omega
structure HM where
 w : List Int
 junk : List Int
 ep : Nat
 q : Bool
def HM.pop (m : HM) : HM := ⟨(popF m.w).2, (popF m.w).1 :: m.junk, m.ep, false⟩
def HM.push (m : HM) (x : Int) : HM := ⟨pushF m.w x, [], m.ep + 1, false⟩
abbrev HM.blk (m : HM) (T : List Blk) : List Blk := hpB m.w m.junk m.ep m.q T
def nextL (d2 : Int) : List Nat → HM → List Int → HM × List Int × Bool
 | [], m, ds => (m, ds, true)
 | n :: r, m, ds => if ds.getD n 0 < 0 then nextL d2 r (m.push n) (ds.set n d2) else if ds.getD n 0 = d2 then nextL d2 r m ds else (m, ds, false)
structure WR where
 need : Int
 at_ : Int
 e : Nat
 ds : List Int
 m : HM
 x : List Blk
noncomputable def infoBlk (op : Nat) : Blk := .row [.str (rowOf op).word, ii (rowOf op).width, .int .u32 (rowOf op).most, ii (takesF op), ii (givesF op), .int .u8 (kindF op)] 0 6 true true
noncomputable def walkF (code : List Instr) (s : List PR × List Nat) (ts : List (List Nat)) : Nat → HM → List Int → Int → WR
 | 0, m, ds, need => ⟨need, 0, 0, ds, m, []⟩
 | f + 1, m, ds, need =>
  if m.w.length = 0 then ⟨need, 0, 0, ds, m, []⟩
  else if ds.getD (popF m.w).1.toNat 0 < takesF (code.getD (popF m.w).1.toNat default).op then ⟨0, (popF m.w).1, 140, ds, m.pop, [infoBlk (code.getD (popF m.w).1.toNat default).op]⟩
  else if 64 < ds.getD (popF m.w).1.toNat 0 - takesF (code.getD (popF m.w).1.toNat default).op + givesF (code.getD (popF m.w).1.toNat default).op then ⟨0, (popF m.w).1, 141, ds, m.pop, [infoBlk (code.getD (popF m.w).1.toNat default).op]⟩
  else if kindF (code.getD (popF m.w).1.toNat default).op = 7 ∧ ds.getD (popF m.w).1.toNat 0 ≠ 1 then ⟨0, (popF m.w).1, 143, ds, m.pop, [infoBlk (code.getD (popF m.w).1.toNat default).op]⟩
  else if (nextL (ds.getD (popF m.w).1.toNat 0 - takesF (code.getD (popF m.w).1.toNat default).op + givesF (code.getD (popF m.w).1.toNat default).op) (nextF code s ts (popF m.w).1.toNat) m.pop ds).2.2 then
   walkF code s ts f (nextL (ds.getD (popF m.w).1.toNat 0 - takesF (code.getD (popF m.w).1.toNat default).op + givesF (code.getD (popF m.w).1.toNat default).op) (nextF code s ts (popF m.w).1.toNat) m.pop ds).1
    (nextL (ds.getD (popF m.w).1.toNat 0 - takesF (code.getD (popF m.w).1.toNat default).op + givesF (code.getD (popF m.w).1.toNat default).op) (nextF code s ts (popF m.w).1.toNat) m.pop ds).2.1
    (max (max need (ds.getD (popF m.w).1.toNat 0)) (ds.getD (popF m.w).1.toNat 0 - takesF (code.getD (popF m.w).1.toNat default).op + givesF (code.getD (popF m.w).1.toNat default).op))
  else ⟨0, (popF m.w).1, 142, (nextL (ds.getD (popF m.w).1.toNat 0 - takesF (code.getD (popF m.w).1.toNat default).op + givesF (code.getD (popF m.w).1.toNat default).op) (nextF code s ts (popF m.w).1.toNat) m.pop ds).2.1, (nextL (ds.getD (popF m.w).1.toNat 0 - takesF (code.getD (popF m.w).1.toNat default).op + givesF (code.getD (popF m.w).1.toNat default).op) (nextF code s ts (popF m.w).1.toNat) m.pop ds).1, [infoBlk (code.getD (popF m.w).1.toNat default).op]⟩
structure WOk (n : Nat) (w ds : List Int) : Prop where
 len : ds.length = n
 low : ∀ v ∈ ds, -1 ≤ v ∧ v ≤ 64
 ins : ∀ x ∈ w, 0 ≤ x ∧ x < n
 few : w.length + neg ds ≤ n
theorem mem_set_or {ds : List Int} {n : Nat} {v x : Int} (h : x ∈ ds.set n v) : x ∈ ds ∨ x = v := List.mem_or_eq_of_mem_set h
theorem nextOk_push {n : Nat} {w ds : List Int} (h : WOk n w ds) {x : Nat} (hx : x < n) {d2 : Int} (h0 : 0 ≤ d2) (h64 : d2 ≤ 64) (hn : ds.getD x 0 < 0) : WOk n (pushF w x) (ds.set x d2) := by
 have hxl : x < ds.length := by rw [h.len]; exact hx
 rw [getD_lt hxl] at hn
 have hneg := neg_set h0 hxl hn
 refine ⟨by rw [List.length_set]; exact h.len, fun v hv => ?_, fun y hy => ?_, ?_⟩
 ·rcases mem_set_or hv with h1 | h1
  ·exact h.low v h1
  ·subst h1; omega
 ·have := (pushF_perm w x).mem_iff.mp hy
  rcases List.mem_cons.mp this with h1 | h1
  ·subst h1; omega
  ·exact h.ins y h1
 ·have := h.few
  rw [pushF_len]; omega
theorem popOk {n : Nat} {w ds : List Int} (h : WOk n w ds) (h0 : 0 < w.length) : 0 ≤ (popF w).1 ∧ (popF w).1 < n ∧ WOk n (popF w).2 ds := by
 have hp := popF_perm h0
 have h1 := h.ins (popF w).1 (hp.mem_iff.mp (by simp))
 refine ⟨h1.1, h1.2, h.len, h.low, fun x hx => h.ins x (hp.mem_iff.mp (List.mem_cons_of_mem _ hx)), ?_⟩
 have := popF_len h0
 have := h.few
 omega
theorem nextL_meas {d2 : Int} (h0 : 0 ≤ d2) (h64 : d2 ≤ 64) {n : Nat} : ∀ {l : List Nat} {m : HM} {ds : List Int}, (∀ x ∈ l, x < n) → WOk n m.w ds → WOk n (nextL d2 l m ds).1.w (nextL d2 l m ds).2.1 ∧ (nextL d2 l m ds).1.w.length + neg (nextL d2 l m ds).2.1 = m.w.length + neg ds
 | [], m, ds, _, h => ⟨h, rfl⟩
 | x :: l, m, ds, hl, h => by
  have hx : x < n := hl x (by simp)
  rw [nextL]
  split
  ·rename_i hc
   have h1 := nextL_meas h0 h64 (l := l) (m := m.push x) (ds := ds.set x d2) (fun y hy => hl y (List.mem_cons_of_mem _ hy)) (nextOk_push h hx h0 h64 hc)
   refine ⟨h1.1, ?_⟩
   have hxl : x < ds.length := by rw [h.len]; exact hx
   rw [getD_lt hxl] at hc
   have := neg_set h0 hxl hc
   rw [h1.2]
   show (pushF m.w x).length + _ = _
   rw [pushF_len]; omega
  ·split
   ·exact nextL_meas h0 h64 (fun y hy => hl y (List.mem_cons_of_mem _ hy)) h
   ·exact ⟨h, rfl⟩
theorem nextF_len (code : List Instr) (s : List PR × List Nat) (ts : List (List Nat)) (hj : ∀ l ∈ ts, l.length ≤ 35184372087808) (i : Nat) : (nextF code s ts i).length ≤ 35184372087808 := by
 unfold nextF
 dsimp only
 split
 ·simp
 ·split
  ·split <;> simp
  ·split
   ·simp
   ·split
    ·by_cases h : s.2.getD i 0 < ts.length
     ·rw [getD_lt h]; exact hj _ (List.getElem_mem h)
     ·rw [getD_ge (by omega)]; simp
    ·simp
theorem few_takes : (List.range 60).all (fun op => decide (takesF op ≤ 2 ∧ givesF op ≤ 2)) = true := by decide
theorem takes_le (op : Nat) : takesF op ≤ 2 ∧ givesF op ≤ 2 := by
 by_cases h : op < 60
 ·simpa using List.all_eq_true.mp few_takes op (List.mem_range.mpr h)
 ·have : rowG op = (0, 0, 0, 0, 0) := getD_ge (by simp [rowTable]; omega)
  simp [takesF, givesF, this]
end Go.Proofs.YtfplmcpkagpaiaaGreatDoor.Fl
end
