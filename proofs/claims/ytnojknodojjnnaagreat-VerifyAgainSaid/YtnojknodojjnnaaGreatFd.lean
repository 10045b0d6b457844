/-
  Package procs: Find.
  Package flow: found, info, next.
-/
import Derived.Test.YtnojknodojjnnaaGreatFc
import Derived.Test.YtnojknodojjnnaaGreatNa
section
namespace Go.Proofs.YtnojknodojjnnaaGreat.Fl
open Go Go.Sim
set_option maxRecDepth 100000
set_option maxHeartbeats 0
set_option linter.unusedSimpArgs false
set_option linter.unusedVariables false

theorem cutS_of (s : List PR × List Nat) (i : Nat) (x : Instr) (h : ∀ p ∈ s.2, p < s.1.length) (h0 : x.op = 3 ∨ 0 < s.1.length) : (∀ p ∈ (cutS s i x).2, p < (cutS s i x).1.length) ∧ 0 < (cutS s i x).1.length := by
  unfold cutS
  by_cases hx : x.op = 3
  · simp only [hx, if_true, List.length_set, List.length_append, List.length_singleton]
    refine ⟨fun p hp => ?_, by omega⟩
    rcases List.mem_append.mp hp with h1 | h1
    · have := h p h1; omega
    · simp at h1; omega
  · have h0' : 0 < s.1.length := by rcases h0 with h | h; exact absurd h hx; exact h
    simp only [hx, if_false, List.length_set]
    refine ⟨fun p hp => ?_, by omega⟩
    rcases List.mem_append.mp hp with h1 | h1
    · exact h p h1
    · simp at h1; omega
theorem cutN_of {code : List Instr} (h0 : (code.getD 0 default).op = 3) : ∀ n, (∀ p ∈ (cutN code n).2, p < (cutN code n).1.length)
  | 0 => by simp [cutN]
  | n + 1 => by
    refine (cutS_of _ _ _ (cutN_of h0 n) ?_).1
    cases n with
    | zero => exact .inl h0
    | succ n => exact .inr (cutN_pos h0 (by omega))

/-- What is wrong with an instruction of code. -/
def faultAt (s : List PR × List Nat) (code : List Instr) (i : Nat) : Nat := faultF (s.1.getD (s.2.getD i 0) default) i (code.getD i default)
/-- What Find answers: a frozen box of three lists. -/
abbrev procsV (s : List PR × List Nat) (ts : List (List Nat)) : V := .pcon [lst ePR s.1, lst eN s.2, .scon (ts.map (lst eW)) 0 ts.length false] 0
def findR (lent : Bool) (code : List Instr) (jumps : List Nat) (k m : Nat) : V :=
  if k < code.length then .tuple [.nilptr, ii k, ii (faultAt (cutF code) code k)]
  else if m < jumps.length then .tuple [.nilptr, ii m, ii 134]
  else .tuple [procsV (cutF code) (tgtN (cutF code) jumps jumps.length), ii 0, ii 0]
abbrev findSlots (code : List Instr) (jumps : List Nat) (nm out : V) (i : Nat) : List V :=
  [lst eInstr code, lst eW jumps, nm, xx, xx, xx, xx, xx, xx, out, ii 0, ii 0, V.pref 0 0 0 0, xx, xx, xx, xx, xx, xx, xx, V.tuple [out, ii 0, ii 0], lst eInstr code, V.tuple [out, ii 0, ii 0], out, ii 0,
        ii 0, ii 0, V.bool false, xx, xx, lst eInstr code, ii code.length, V.bool false, V.bool false,
        lst eInstr code, ptr eInstr code 0 0, ptr eInstr code 0 0, V.int IntKind.u8 3, V.bool false, V.bool false,
        lst eInstr code, V.pref 0 0 0 0, lst eInstr code, ii code.length, ii i] ++ pois 51
theorem optMap_of {f : V → Option V} : ∀ {l : List V} {l' : List V}, l.length = l'.length → (∀ i (h : i < l.length) (h' : i < l'.length), f l[i] = some l'[i]) → optMap f l = some l'
  | [], [], _, _ => rfl
  | [], _ :: _, h, _ => by simp at h
  | _ :: _, [], h, _ => by simp at h
  | x :: l, y :: l', h, hf => by
    have h0 := hf 0 (by simp) (by simp)
    have h1 := optMap_of (l := l) (l' := l') (by simpa using h) (fun i h h' => hf (i + 1) (by rw [List.length_cons]; omega) (by rw [List.length_cons]; omega))
    simp only [List.getElem_cons_zero] at h0
    simp [optMap, h0, h1]
theorem view_tcells (n : Nat) (s : List PR × List Nat) (ts : List (List Nat)) (r : Heap) : optMap (V.view (n + 1) (aimBlk s ts :: r)) (tCells ts) = some (ts.map (lst eW)) := by
  refine optMap_of (by simp) (fun i h h' => ?_)
  have hi : i < ts.length := by simpa using h
  have e1 : (tCells ts)[i] = .sref 0 (i + 4) 0 ts[i].length ts[i].length (1, false) := by simp [tCells]
  rw [e1]
  simp [tRows_get hi]
theorem canon_lsts (ts : List (List Nat)) : V.canonL (ts.map (lst eW)) = ts.map (lst eW) := by
  induction ts with
  | nil => rfl
  | cons l ts ih => simp [ih]
theorem stripL_tCells (ts : List (List Nat)) : V.stripL (tCells ts) = tCells ts := by
  have : ∀ l : List V, (∀ x ∈ l, ∃ j o n e q, x = V.sref 0 j o n e q) → V.stripL l = l := by
    intro l
    induction l with
    | nil => intro _; simp
    | cons x l ih =>
      intro h
      obtain ⟨j, o, n, e, q, rfl⟩ := h x (by simp)
      simp [ih fun y hy => h y (by simp [hy])]
  refine this _ fun x hx => ?_
  obtain ⟨j, o, n, e, q, _, h⟩ := tCells_low x hx
  exact ⟨j, o, n, e, q, h⟩
theorem tRows_strip (ts : List (List Nat)) : (tRows ts).map stripBlk = tRows ts := by
  rw [List.map_congr_left (g := id)]
  · simp
  · intro b hb
    obtain ⟨l, _, rfl⟩ := List.mem_map.1 hb
    simp
theorem Find_walk (lent) (nm : V) (hnm : nm = .nilslice ∨ nm = .scon [] 0 0 false) (code : List Instr) (jumps : List Nat) (hf : ∀ i ∈ code, insFits i) (hj : jumps.length ≤ 35184372087808) (hjf : ∀ t ∈ jumps, t < 4294967296) (he : encodes code) (hc : 0 < code.length) (h0 : (code.getD 0 default).op = 3)
    (k m : Nat) (hk : k ≤ code.length) (hb : ∀ i, i < k → faultAt (cutF code) code i = 0) (hbk : k < code.length → faultAt (cutF code) code k ≠ 0)
    (hm : m ≤ jumps.length) (hmb : ∀ i, i < m → ¬ badJ (cutF code) jumps i) (hmk : m < jumps.length → badJ (cutF code) jumps m) : pureV E (om E) 22 lent [lst eInstr code, lst eW jumps, nm] = some (findR lent code jumps k m) := by
  apply pu_22
  have hE : ∀ lent, _ := fun lent => Encode_ok lent code he.1 hf he.2
  have hne : code ≠ [] := by rintro rfl; simp at hc
  have hop : code[0].op = 3 := by simpa [List.getD, hc] using h0
  have s2 : (cutF code).2.length = code.length := (cutN_len code code.length).1
  have s1 : (cutF code).1.length ≤ code.length := (cutN_len code code.length).2
  have s0 : 0 < (cutF code).1.length := cutN_pos h0 hc
  have so : ∀ p ∈ (cutF code).2, p < (cutF code).1.length := cutN_of h0 code.length
  have hl := he.1
  have hcut := Cut_at code he.1 h0
  unfold findR
  generalize cutF code = s at *
  have haim := Aim s jumps m hm s0 (by omega) (by omega) so hj hjf hmb hmk
  rcases hnm with hnm | hnm
  all_goals
    simp (disch := omega) [if_pos, if_neg, iteK_pos, iteK_neg, Tryz.f22, hE, hc, hne, hop, hcut, hnm]
    refine loop_use (dyn := [10]) (fun (a : Nat) => findSlots code jumps nm (bs (encI code)) a)
      (fun a => [cutOut s]) (fun a => a ≤ k) (fun a => k - a) hint_22_0 (by kernel_rfl) ?_ 0 (by simp) (by simp [findSlots, hnm])
    rintro i hi IH
    rw [lpB_eq]
    by_cases hik : i < k
    · have hlt : i < code.length := by omega
      have hbi := hb i hik
      have h2 : i < s.2.length := by omega
      have h1 : s.2[i] < s.1.length := so _ (List.getElem_mem h2)
      unfold faultAt at hbi
      rw [getD_lt hlt, getD_lt h2, getD_lt h1] at hbi
      simp (disch := omega) [if_pos, if_neg, iteK_pos, iteK_neg, hlt, h2, h1, PFault, hbi, eN_get, ePR_get0, ePR_get1, ePR_get2, ePR_get3]
      rw [iteK_pos (by kernel_rfl)]
      simp (disch := omega) [if_pos, if_neg, iteK_pos, iteK_neg, hlt, h2, h1, PFault, hbi, eN_get, ePR_get0, ePR_get1, ePR_get2, ePR_get3]
      exact IH (i + 1) _ _ (by omega) (by omega) (by simp [findSlots, hnm])
    · obtain rfl : i = k := by omega
      by_cases hlt : i < code.length
      · have hbi := hbk hlt
        have h2 : i < s.2.length := by omega
        have h1 : s.2[i] < s.1.length := so _ (List.getElem_mem h2)
        unfold faultAt at hbi ⊢
        rw [getD_lt hlt, getD_lt h2, getD_lt h1] at hbi ⊢
        simp (disch := omega) [if_pos, if_neg, iteK_pos, iteK_neg, hlt, h2, h1, PFault, hbi, eN_get, ePR_get0, ePR_get1, ePR_get2, ePR_get3]
        rw [iteK_pos (by kernel_rfl)]
        simp (disch := omega) [if_pos, if_neg, iteK_pos, iteK_neg, hlt, h2, h1, PFault, hbi, eN_get, ePR_get0, ePR_get1, ePR_get2, ePR_get3]
      · obtain rfl : i = code.length := by omega
        by_cases hmj : m < jumps.length
        · simp (disch := omega) [if_pos, if_neg, iteK_pos, iteK_neg, hmj, call_56, haim]
        · obtain rfl : m = jumps.length := by omega
          simp (disch := omega) [if_pos, if_neg, iteK_pos, iteK_neg, call_56, haim, hnm]
          apply loop_next (dyn := [10]) hint_22_1 (by kernel_rfl)
          simp (disch := omega) [if_pos, if_neg, iteK_pos, iteK_neg, hnm]
          rw [lpB_eq]
          simp (disch := omega) [if_pos, if_neg, iteK_pos, iteK_neg, hnm]
          cases lent
          · simp (disch := omega) [if_pos, if_neg, iteK_pos, iteK_neg]
            rw [view_tcells 47 s _ []]
            simp (disch := omega) [if_pos, if_neg, iteK_pos, iteK_neg, canon_lsts, procsV]
            have hc : cutCells (List.map (lst eW) (tgtN s jumps jumps.length)) 0 s.1.length 1 = List.map (lst eW) (tgtN s jumps jumps.length) := cutCells_all _ _ _ (by simp [tgtN_len])
            simp [hc, canon_lsts, tgtN_len]
          · simp (disch := omega) [if_pos, if_neg, iteK_pos, iteK_neg, stripL_tCells, tRows_strip]
            rw [view_tcells 47 s _ []]
            simp (disch := omega) [if_pos, if_neg, iteK_pos, iteK_neg, canon_lsts, procsV]
            have hc : cutCells (List.map (lst eW) (tgtN s jumps jumps.length)) 0 s.1.length 1 = List.map (lst eW) (tgtN s jumps jumps.length) := cutCells_all _ _ _ (by simp [tgtN_len])
            simp [hc, canon_lsts, tgtN_len]
theorem first_bad (P : Nat → Prop) (n : Nat) : ∃ k, k ≤ n ∧ (∀ i, i < k → ¬ P i) ∧ (k < n → P k) := by
  induction n with
  | zero => exact ⟨0, by omega, by omega, by omega⟩
  | succ n ih =>
    obtain ⟨k, h1, h2, h3⟩ := ih
    by_cases hk : k < n
    · exact ⟨k, by omega, h2, fun _ => h3 hk⟩
    · obtain rfl : k = n := by omega
      by_cases hP : P k
      · exact ⟨k, by omega, h2, fun _ => hP⟩
      · refine ⟨k + 1, by omega, fun i hi => ?_, by omega⟩
        by_cases hi' : i < k
        · exact h2 i hi'
        · obtain rfl : i = k := by omega
          exact hP
/-- Code whose procedures Find finds. -/
structure FindOk (code : List Instr) (jumps : List Nat) : Prop where
  enc : encodes code
  pos : 0 < code.length
  first : (code.getD 0 default).op = 3
  faults : ∀ i, i < code.length → faultAt (cutF code) code i = 0
  jumps : ∀ i, i < jumps.length → ¬ badJ (cutF code) jumps i
/-- What may stand in the lists. -/
structure CodeFits (code : List Instr) (jumps : List Nat) : Prop where
  ins : ∀ i ∈ code, insFits i
  len : jumps.length ≤ 35184372087808
  words : ∀ t ∈ jumps, t < 4294967296
theorem Find_ok {nm : V} (hnm : nm = .nilslice ∨ nm = .scon [] 0 0 false) {code : List Instr} {jumps : List Nat} (hf : CodeFits code jumps) (h : FindOk code jumps) : pureV E (om E) 22 false [lst eInstr code, lst eW jumps, nm] = some (.tuple [procsV (cutF code) (tgtN (cutF code) jumps jumps.length), ii 0, ii 0]) := by
  have := Find_walk false nm hnm code jumps hf.ins hf.len hf.words h.enc h.pos h.first code.length jumps.length (Nat.le_refl _) h.faults (by omega) (Nat.le_refl _) h.jumps (by omega)
  rw [this]
  simp [findR]
theorem Find_lent {nm : V} (hnm : nm = .nilslice ∨ nm = .scon [] 0 0 false) {code : List Instr} {jumps : List Nat} (hf : CodeFits code jumps) (h : FindOk code jumps) : pureV E (om E) 22 true [lst eInstr code, lst eW jumps, nm] = some (.tuple [procsV (cutF code) (tgtN (cutF code) jumps jumps.length), ii 0, ii 0]) := by
  have := Find_walk true nm hnm code jumps hf.ins hf.len hf.words h.enc h.pos h.first code.length jumps.length (Nat.le_refl _) h.faults (by omega) (Nat.le_refl _) h.jumps (by omega)
  rw [this]
  simp [findR]
theorem Find_early {code : List Instr} {jumps : List Nat} (hf : CodeFits code jumps) (h : ¬ (encodes code ∧ 0 < code.length ∧ (code.getD 0 default).op = 3)) : ∃ at_ e : Nat, e ≠ 0 ∧ e < 140 ∧ ∀ (lent : Bool) (nm : V), (nm = .nilslice ∨ nm = .scon [] 0 0 false) → pureV E (om E) 22 lent [lst eInstr code, lst eW jumps, nm] = some (.tuple [.nilptr, ii at_, ii e]) := by
  obtain ⟨out, at_, e, hE, hE1, hE2, hE3⟩ := Encode code hf.ins
  by_cases he : e = 0
  · subst he
    obtain rfl := hE3 rfl
    have henc := hE1.mp rfl
    refine ⟨0, 130, by omega, by omega, fun lent nm hnm => ?_⟩
    apply pu_22
    by_cases hc : 0 < code.length
    · have hne : code ≠ [] := by rintro rfl; simp at hc
      have hop : ¬ code[0].op = 3 := by
        intro hop
        exact h ⟨henc, hc, by simpa [List.getD, hc] using hop⟩
      simp (disch := omega) [if_pos, if_neg, iteK_pos, iteK_neg, Tryz.f22, hE, hc, hne, hop]
    · obtain rfl : code = [] := by cases code with | nil => rfl | cons x l => simp at hc
      rw [lst_nil] at hE
      simp (disch := omega) [if_pos, if_neg, iteK_pos, iteK_neg, Tryz.f22, hE]
  · refine ⟨at_, e, he, hE2, fun lent nm hnm => ?_⟩
    apply pu_22
    simp (disch := omega) [if_pos, if_neg, iteK_pos, iteK_neg, Tryz.f22, hE, he]
theorem faultF_lt (p i x) : faultF p i x < 140 := by
  unfold faultF
  repeat' split
  all_goals omega
theorem Find_bad {code : List Instr} {jumps : List Nat} (hf : CodeFits code jumps) (h : ¬ FindOk code jumps) : ∃ at_ e : Nat, e ≠ 0 ∧ e < 140 ∧ ∀ (lent : Bool) (nm : V), (nm = .nilslice ∨ nm = .scon [] 0 0 false) → pureV E (om E) 22 lent [lst eInstr code, lst eW jumps, nm] = some (.tuple [.nilptr, ii at_, ii e]) := by
  by_cases h1 : encodes code ∧ 0 < code.length ∧ (code.getD 0 default).op = 3
  · obtain ⟨k, k1, k2, k3⟩ := first_bad (fun i => faultAt (cutF code) code i ≠ 0) code.length
    obtain ⟨m, m1, m2, m3⟩ := first_bad (fun i => badJ (cutF code) jumps i) jumps.length
    have hw : ∀ (lent : Bool) (nm : V), (nm = .nilslice ∨ nm = .scon [] 0 0 false) → _ := fun lent nm hnm => Find_walk lent nm hnm code jumps hf.ins hf.len hf.words h1.1 h1.2.1 h1.2.2 k m k1 (fun i hi => Classical.byContradiction (k2 i hi)) k3 m1 m2 m3
    by_cases hk : k < code.length
    · refine ⟨k, faultAt (cutF code) code k, k3 hk, faultF_lt _ _ _, fun lent nm hnm => ?_⟩
      rw [hw lent nm hnm]; simp [findR, hk]
    · by_cases hm : m < jumps.length
      · refine ⟨m, 134, by omega, by omega, fun lent nm hnm => ?_⟩
        rw [hw lent nm hnm]; simp [findR, hk, hm]
      · exact absurd ⟨h1.1, h1.2.1, h1.2.2, fun i hi => Classical.byContradiction (k2 i (by omega)), fun i hi => m2 i (by omega)⟩ h
  · exact Find_early hf h1
end Go.Proofs.YtnojknodojjnnaaGreat.Fl
end
section
namespace Go.Proofs.YtnojknodojjnnaaGreat.Fl
open Go Go.Sim
set_option maxRecDepth 100000
set_option maxHeartbeats 0
set_option linter.unusedSimpArgs false
set_option linter.unusedVariables false

theorem eq_pcon (x y : Operand) (c : List V) (o : Nat) : binO E .eql 60 x y (.pcon c o) .nilptr = some (.bool false) := by
  show binV E .eql 60 (.pcon c o) .nilptr = some (.bool false)
  have h : E.P.underlying 60 = some (.pointer 115) := by kernel_rfl
  unfold binV
  simp [eqV, h]
theorem clone_eW (L : Nat) (l : List Nat) (h : Heap) : cloneWL L 1 [lst eW l] h = if L < l.length then none else if l = [] then some (.scon [] 0 0 false, h) else
    some (.sref 0 (h.top.length + 1) 0 l.length 0 (1, false), (Go.Sim.newRow (h.push (.row [] 0 1 true true)) (cat eW l) 1).2) := clone_lst eW l h 1 rfl
theorem clone_eI (L : Nat) (l : List Instr) (h : Heap) : cloneWL L 2 [lst eInstr l] h = if L < l.length then none else if l = [] then some (.scon [] 0 0 false, h) else
    some (.sref 0 (h.top.length + 1) 0 l.length 0 (2, false), (Go.Sim.newRow (h.push (.row [] 0 2 true true)) (cat eInstr l) 2).2) := clone_lst eInstr l h 2 rfl
theorem ProcsOf (s : List PR × List Nat) (ts : List (List Nat)) (i : Nat) (hi : i < s.2.length) (hi' : i < 4294967296) : pureV E (om E) 85 false [procsV s ts, .int .u32 i] = some (ii s.2[i]) := by
  apply pu_85
  simp (disch := omega) [if_pos, if_neg, iteK_pos, iteK_neg, Tryz.f85, hi, procsV, eq_pcon]
theorem ProcsProc (s : List PR × List Nat) (ts : List (List Nat)) (i : Nat) (hi : i < s.1.length) : pureV E (om E) 84 false [procsV s ts, ii i] = some (.tuple [prV s.1[i], bb true]) := by
  apply pu_84
  simp (disch := omega) [if_pos, if_neg, iteK_pos, iteK_neg, Tryz.f84, hi, procsV, eq_pcon]
theorem ProcsTargets (s : List PR × List Nat) (ts : List (List Nat)) (i : Nat) (hi : i < s.1.length) (hl : ts.length = s.1.length) (hj : (ts[i]'(by omega)).length ≤ 35184372087808) : pureV E (om E) 119 false [procsV s ts, ii i] = some (lst eW (ts[i]'(by omega))) := by
  apply pu_119
  have hi2 : i < ts.length := by omega
  by_cases hl0 : ts[i] = []
  · simp (disch := omega) [if_pos, if_neg, iteK_pos, iteK_neg, Tryz.f119, ProcsProc, hi, hi2, canon_lsts, clone_eW, hl0]
  · simp (disch := omega) [if_pos, if_neg, iteK_pos, iteK_neg, Tryz.f119, ProcsProc, hi, hi2, canon_lsts, clone_eW, hl0]
abbrev graphV (code : List Instr) (jumps : List Nat) (s : List PR × List Nat) (ts : List (List Nat)) : V := .pcon [lst eInstr code, lst eW jumps, procsV s ts] 0
theorem GInfo (code jumps s ts) (i : Nat) (hi : i < code.length) : pureV E (om E) 107 false [graphV code jumps s ts, ii i] = some (rowV (rowOf code[i].op)) := by
  apply pu_107
  simp (disch := omega) [if_pos, if_neg, iteK_pos, iteK_neg, Tryz.f107, Info, hi, graphV, procsV, canon_lsts]
theorem GFound_ok {code : List Instr} {jumps : List Nat} (hf : CodeFits code jumps) (h : FindOk code jumps) : pureV E (om E) 58 false [lst eInstr code, lst eW jumps] = some (.tuple [graphV code jumps (cutF code) (tgtN (cutF code) jumps jumps.length), ii 0, ii 0]) := by
  apply pu_58
  have hF := Find_ok (.inr rfl) hf h
  have hl := h.enc.1
  have hj := hf.len
  have hne : code ≠ [] := by rintro rfl; have := h.pos; simp at this
  have hlen := tgtN_len (cutF code) jumps jumps.length
  generalize tgtN (cutF code) jumps jumps.length = ts at *
  generalize cutF code = s at *
  by_cases hj0 : jumps = []
  · subst hj0
    rw [lst_nil] at hF ⊢
    simp (disch := omega) [if_pos, if_neg, iteK_pos, iteK_neg, Tryz.f58, hF, clone_eI, hne, canon_lsts, graphV, procsV]
  · simp (disch := omega) [if_pos, if_neg, iteK_pos, iteK_neg, Tryz.f58, hF, clone_eI, clone_eW, hne, hj0, canon_lsts, graphV, procsV]
theorem GFound_bad {code : List Instr} {jumps : List Nat} {at_ e : Nat} (he : e ≠ 0) (hF : ∀ (lent : Bool) (nm : V), (nm = .nilslice ∨ nm = .scon [] 0 0 false) → pureV E (om E) 22 lent [lst eInstr code, lst eW jumps, nm] = some (.tuple [.nilptr, ii at_, ii e])) : pureV E (om E) 58 false [lst eInstr code, lst eW jumps] = some (.tuple [.nilptr, ii at_, ii e]) := by
  apply pu_58
  have hF := hF false _ (.inr rfl)
  simp (disch := omega) [if_pos, if_neg, iteK_pos, iteK_neg, Tryz.f58, hF, he]
theorem Compact_ne (x y : Int) (h : x ≠ y) : callV E (om E) 118 [.sref 0 0 0 2 0 (1, true)] [[.row [.int .u32 x, .int .u32 y] 0 1 true true]] = some (.sref 0 0 0 2 0 (1, true), [[.row [.int .u32 x, .int .u32 y] 0 1 true true]]) := by
  rw [call_118]
  have key : bodyV E (om E) 118 (V.upL 1 [.sref 0 0 0 2 0 (1, true)]) ([] :: [[.row [.int .u32 x, .int .u32 y] 0 1 true true]]) = some (.sref 1 0 0 2 0 (1, true), [] :: [[.row [.int .u32 x, .int .u32 y] 0 1 true true]]) := by
    apply bo_118
    simp (disch := omega) [if_pos, if_neg, iteK_pos, iteK_neg, Tryz.f118]
    iterate 2
      apply loop_next (dyn := []) hint_118_0 (by kernel_rfl)
      simp (disch := omega) [if_pos, if_neg, iteK_pos, iteK_neg]
      rw [lpB_eq]
      simp (disch := omega) [if_pos, if_neg, iteK_pos, iteK_neg, h, Ne.symm h]
  rw [key]
  simp
theorem clear_one (x y : Int) : clearV Tryz.prog [[], [.row [.int .u32 x, .int .u32 y] 0 1 true true]] 23 (.sref 1 0 1 1 0 (1, true)) = some (V.undef, [[], [.row [.int .u32 x, .int .u32 0] 0 1 true true]]) := by
  unfold clearV
  rw [show Tryz.prog.underlying 23 = some (.slice 25) by kernel_rfl]
  simp [show zeroV Tryz.prog 25 = some (.int .u32 0) by kernel_rfl, show sizeV Tryz.prog 25 = some 1 by kernel_rfl, rep]
theorem Compact_eq (x : Int) : callV E (om E) 118 [.sref 0 0 0 2 0 (1, true)] [[.row [.int .u32 x, .int .u32 x] 0 1 true true]] = some (.sref 0 0 0 1 0 (1, false), [[.row [.int .u32 x, .int .u32 0] 0 1 true true]]) := by
  rw [call_118]
  have key : bodyV E (om E) 118 (V.upL 1 [.sref 0 0 0 2 0 (1, true)]) ([] :: [[.row [.int .u32 x, .int .u32 x] 0 1 true true]]) = some (.sref 1 0 0 1 0 (1, false), [] :: [[.row [.int .u32 x, .int .u32 0] 0 1 true true]]) := by
    apply bo_118
    simp (disch := omega) [if_pos, if_neg, iteK_pos, iteK_neg, Tryz.f118]
    apply loop_next (dyn := []) hint_118_0 (by kernel_rfl)
    simp (disch := omega) [if_pos, if_neg, iteK_pos, iteK_neg]
    rw [lpB_eq]
    simp (disch := omega) [if_pos, if_neg, iteK_pos, iteK_neg]
    apply loop_next (dyn := []) hint_118_1 (by kernel_rfl)
    simp (disch := omega) [if_pos, if_neg, iteK_pos, iteK_neg]
    rw [lpB_eq]
    simp (disch := omega) [if_pos, if_neg, iteK_pos, iteK_neg]
    rw [clear_one]
    simp (disch := omega) [if_pos, if_neg, iteK_pos, iteK_neg]
  rw [key]
  simp
/-- What may come right behind an instruction. -/
def nextF (code : List Instr) (s : List PR × List Nat) (ts : List (List Nat)) (i : Nat) : List Nat :=
  let x := code.getD i default
  let k := kindF x.op
  if k = 1 ∨ k = 6 ∨ k = 5 then [i + 1]
  else if k = 2 then (if i + 1 = x.arg then [i + 1] else [min (i + 1) x.arg, max (i + 1) x.arg])
  else if k = 3 then [x.arg]
  else if k = 4 then ts.getD (s.2.getD i 0) []
  else []
theorem GNext (code jumps s ts) (i : Nat) (hi : i < code.length) (hl : code.length ≤ 16384) (h2 : s.2.length = code.length) (ho : ∀ p ∈ s.2, p < s.1.length) (ht : ts.length = s.1.length) (hj : ∀ l ∈ ts, l.length ≤ 35184372087808) :
    pureV E (om E) 108 false [graphV code jumps s ts, ii i] = some (lst eW (nextF code s ts i)) := by
  apply pu_108
  unfold nextF
  rw [getD_lt hi]
  dsimp only
  have hi2 : i < s.2.length := by omega
  have hp : s.2[i] < s.1.length := ho _ (List.getElem_mem hi2)
  have hp2 : s.2[i] < ts.length := by omega
  have hjl := hj _ (List.getElem_mem hp2)
  generalize hk : kindF code[i].op = k
  generalize hx : code[i].arg = a
  have e1 : ((i : Int) + 1) % 4294967296 = i + 1 := by omega
  have e2 : (i : Int) % 4294967296 = i := by omega
  by_cases h1 : k = 1
  · subst h1; simp (disch := omega) [if_pos, if_neg, iteK_pos, iteK_neg, Tryz.f108, GInfo, kind_eq, hk, hi, hx, e1, e2, canon_lsts, graphV, procsV]
    rfl
  by_cases h6 : k = 6
  · subst h6; simp (disch := omega) [if_pos, if_neg, iteK_pos, iteK_neg, Tryz.f108, GInfo, kind_eq, hk, hi, hx, e1, e2, canon_lsts, graphV, procsV]
    rfl
  by_cases h5 : k = 5
  · subst h5; simp (disch := omega) [if_pos, if_neg, iteK_pos, iteK_neg, Tryz.f108, GInfo, kind_eq, hk, hi, hx, e1, e2, canon_lsts, graphV, procsV]
    rfl
  by_cases h2 : k = 2
  · subst h2
    by_cases hle : i + 1 ≤ a
    · by_cases heq : i + 1 = a
      · simp (disch := omega) [if_pos, if_neg, iteK_pos, iteK_neg, Tryz.f108, GInfo, kind_eq, hk, hi, hx, e1, e2, canon_lsts, hle, heq, Compact_eq, graphV, procsV]
        subst heq
        rfl
      · simp (disch := omega) [if_pos, if_neg, iteK_pos, iteK_neg, Tryz.f108, GInfo, kind_eq, hk, hi, hx, e1, e2, canon_lsts, hle, heq, Compact_ne, graphV, procsV]
        rfl
    · simp (disch := omega) [if_pos, if_neg, iteK_pos, iteK_neg, Tryz.f108, GInfo, kind_eq, hk, hi, hx, e1, e2, canon_lsts, hle, Compact_ne, graphV, procsV]
      rfl
  by_cases h3 : k = 3
  · subst h3; simp (disch := omega) [if_pos, if_neg, iteK_pos, iteK_neg, Tryz.f108, GInfo, kind_eq, hk, hi, hx, e1, e2, canon_lsts, graphV, procsV]
    rfl
  by_cases h4 : k = 4
  · subst h4; simp (disch := omega) [if_pos, if_neg, iteK_pos, iteK_neg, Tryz.f108, GInfo, kind_eq, hk, hi, hx, e1, e2, canon_lsts, ProcsOf, ProcsTargets, hi2, hp, hp2, graphV, procsV]
  simp (disch := omega) [if_pos, if_neg, iteK_pos, iteK_neg, Tryz.f108, GInfo, kind_eq, hk, hi, hx, h1, h2, h3, h4, h5, h6, e1, e2, canon_lsts, graphV, procsV]
end Go.Proofs.YtnojknodojjnnaaGreat.Fl
end
