/-
  procs.Find with names.
  Plain: procedures lie one behind the other; the targets rise and are all the jumps.
-/
import Derived.Test.YtnojknodojjnnaaGreatFf
import Derived.Test.YtnojknodojjnnaaGreatIa
import Derived.Test.YtnojknodojjnnaaGreatMe
section
namespace Go.Proofs.YtnojknodojjnnaaGreat.Fl
open Go Go.Sim
set_option maxRecDepth 100000
set_option maxHeartbeats 0
set_option linter.unusedSimpArgs false
set_option linter.unusedVariables false

theorem ProcsOf_no (s : List PR × List Nat) (ts : List (List Nat)) (i : Nat) (hi : s.2.length ≤ i) (hi' : i < 4294967296) : pureV E (om E) 85 false [procsV s ts, .int .u32 i] = some (ii (-1)) := by
  apply pu_85
  simp (disch := omega) [if_pos, if_neg, iteK_pos, iteK_neg, Tryz.f85, hi, procsV, eq_pcon]
theorem ProcsProc_no (s : List PR × List Nat) (ts : List (List Nat)) : pureV E (om E) 84 false [procsV s ts, ii (-1)] = some (.tuple [prV ⟨0, 0, 0⟩, bb false]) := by
  apply pu_84
  simp (disch := omega) [if_pos, if_neg, iteK_pos, iteK_neg, Tryz.f84, procsV, eq_pcon]
/-- Does a procedure begin there? -/
def beginsF (s : List PR × List Nat) (x : Nat) : Bool := decide (x < s.2.length ∧ (s.1.getD (s.2.getD x 0) default).b = x)
theorem ProcsBegins (lent) (s : List PR × List Nat) (ts : List (List Nat)) (x : Nat) (hx : x < 4294967296) (ho : ∀ p ∈ s.2, p < s.1.length) : pureV E (om E) 57 lent [procsV s ts, .int .u32 x] = some (bb (beginsF s x)) := by
  apply pu_57
  have hc : V.canon (procsV s ts) = procsV s ts := by simp [canon_lsts]
  have hf : V.flat (procsV s ts) = true := by simp
  by_cases h : x < s.2.length
  · have hO := ProcsOf s ts x h hx
    have hp := ho _ (List.getElem_mem h)
    have hP := ProcsProc s ts _ hp
    have hb : beginsF s x = decide (s.1[s.2[x]].b = x) := by unfold beginsF; rw [getD_lt h, getD_lt hp]; simp [h]
    rw [hb]
    generalize procsV s ts = PV at *
    by_cases hx2 : s.1[s.2[x]].b = x
    · simp (disch := omega) [if_pos, if_neg, iteK_pos, iteK_neg, Tryz.f57, hO, hP, hc, hf, hx2]
    · simp (disch := omega) [if_pos, if_neg, iteK_pos, iteK_neg, Tryz.f57, hO, hP, hc, hf, hx2]
      omega
  · have hO := ProcsOf_no s ts x (by omega) hx
    have hP := ProcsProc_no s ts
    have hb : beginsF s x = false := by unfold beginsF; simp [h]
    rw [hb]
    generalize procsV s ts = PV at *
    simp (disch := omega) [if_pos, if_neg, iteK_pos, iteK_neg, Tryz.f57, hO, hP, hc, hf]
theorem view_tcellsX (n : Nat) (a0 a1 a2 a3 : Blk) (X : List Blk) (ts : List (List Nat)) (r : Heap) : optMap (V.view (n + 1) ((a0 :: a1 :: a2 :: a3 :: (tRows ts ++ X)) :: r)) (tCells ts) = some (ts.map (lst eW)) := by
  refine optMap_of (by simp) (fun i h h' => ?_)
  have hi : i < ts.length := by simpa using h
  have e1 : (tCells ts)[i] = .sref 0 (i + 4) 0 ts[i].length ts[i].length (1, false) := by simp [tCells]
  rw [e1]
  simp [tRowsA_get hi]
theorem tRowsA_put (ts : List (List Nat)) (x y : Blk) : (tRows ts ++ [x]).set ts.length y = tRows ts ++ [y] := by
  rw [List.set_append_right _ _ (by simp)]; simp
def findRN (lent : Bool) (code : List Instr) (jumps : List Nat) (k m q nl : Nat) : V :=
  if k < code.length then .tuple [.nilptr, ii k, ii (faultAt (cutF code) code k)]
  else if m < jumps.length then .tuple [.nilptr, ii m, ii 134]
  else if q < nl then .tuple [.nilptr, ii q, ii 135]
  else .tuple [procsV (cutF code) (tgtN (cutF code) jumps jumps.length), ii 0, ii 0]
theorem FindN_walk (lent) (names : List Export) (hnl : names.length < 4611686018427387904) (code : List Instr) (jumps : List Nat) (hf : ∀ i ∈ code, insFits i) (hj : jumps.length ≤ 35184372087808) (hjf : ∀ t ∈ jumps, t < 4294967296) (he : encodes code) (hc : 0 < code.length) (h0 : (code.getD 0 default).op = 3)
    (k m q : Nat) (hk : k ≤ code.length) (hb : ∀ i, i < k → faultAt (cutF code) code i = 0) (hbk : k < code.length → faultAt (cutF code) code k ≠ 0)
    (hm : m ≤ jumps.length) (hmb : ∀ i, i < m → ¬ badJ (cutF code) jumps i) (hmk : m < jumps.length → badJ (cutF code) jumps m)
    (hq : q ≤ names.length) (hqb : ∀ i, (h : i < q) → beginsF (cutF code) (names[i]'(by omega)).place.toNat = true) (hqk : (h : q < names.length) → beginsF (cutF code) names[q].place.toNat = false) : pureV E (om E) 22 lent [lst eInstr code, lst eW jumps, lst eExport names] = some (findRN lent code jumps k m q names.length) := by
  apply pu_22
  have hE : ∀ lent, _ := fun lent => Encode_ok lent code he.1 hf he.2
  have hne : code ≠ [] := by rintro rfl; simp at hc
  have hop : code[0].op = 3 := by simpa [List.getD, hc] using h0
  have s2 : (cutF code).2.length = code.length := (cutN_len code code.length).1
  have s1 : (cutF code).1.length ≤ code.length := (cutN_len code code.length).2
  have s0 : 0 < (cutF code).1.length := cutN_pos h0 hc
  have so : ∀ p ∈ (cutF code).2, p < (cutF code).1.length := cutN_of h0 code.length
  have hl := he.1
  have hcut := Cut_at code he.1 h0
  unfold findRN
  generalize cutF code = s at *
  have haim := Aim s jumps m hm s0 (by omega) (by omega) so hj hjf hmb hmk
  simp (disch := omega) [if_pos, if_neg, iteK_pos, iteK_neg, Tryz.f22, hE, hc, hne, hop, hcut]
  refine loop_use (dyn := [10]) (fun (a : Nat) => findSlots code jumps (lst eExport names) (bs (encI code)) a)
    (fun a => [cutOut s]) (fun a => a ≤ k) (fun a => k - a) hint_22_0 (by kernel_rfl) ?_ 0 (by simp) (by simp [findSlots])
  rintro i hi IH
  rw [lpB_eq]
  by_cases hik : i < k
  · have hlt : i < code.length := by omega
    have hbi := hb i hik
    have h2 : i < s.2.length := by omega
    have h1 : s.2[i] < s.1.length := so _ (List.getElem_mem h2)
    unfold faultAt at hbi
    rw [getD_lt hlt, getD_lt h2, getD_lt h1] at hbi
    simp (disch := omega) [if_pos, if_neg, iteK_pos, iteK_neg, hlt, h2, h1, PFault, hbi, eN_get, ePR_get0, ePR_get1, ePR_get2, ePR_get3]
    rw [iteK_pos (by kernel_rfl)]
    simp (disch := omega) [if_pos, if_neg, iteK_pos, iteK_neg, hlt, h2, h1, PFault, hbi, eN_get, ePR_get0, ePR_get1, ePR_get2, ePR_get3]
    exact IH (i + 1) _ _ (by omega) (by omega) (by simp [findSlots])
  · obtain rfl : i = k := by omega
    by_cases hlt : i < code.length
    · have hbi := hbk hlt
      have h2 : i < s.2.length := by omega
      have h1 : s.2[i] < s.1.length := so _ (List.getElem_mem h2)
      unfold faultAt at hbi ⊢
      rw [getD_lt hlt, getD_lt h2, getD_lt h1] at hbi ⊢
      simp (disch := omega) [if_pos, if_neg, iteK_pos, iteK_neg, hlt, h2, h1, PFault, hbi, eN_get, ePR_get0, ePR_get1, ePR_get2, ePR_get3]
      rw [iteK_pos (by kernel_rfl)]
      simp (disch := omega) [if_pos, if_neg, iteK_pos, iteK_neg, hlt, h2, h1, PFault, hbi, eN_get, ePR_get0, ePR_get1, ePR_get2, ePR_get3]
    · obtain rfl : i = code.length := by omega
      by_cases hmj : m < jumps.length
      · simp (disch := omega) [if_pos, if_neg, iteK_pos, iteK_neg, hmj, call_56, haim]
      · obtain rfl : m = jumps.length := by omega
        simp (disch := omega) [if_pos, if_neg, iteK_pos, iteK_neg, call_56, haim]
        have htl := tgtN_len s jumps jumps.length
        generalize tgtN s jumps jumps.length = ts at *
        have hcc : cutCells (List.map (lst eW) ts) 0 s.1.length 1 = List.map (lst eW) ts := cutCells_all _ _ _ (by simp [htl])
        have hcc' : cutCells (List.map (lst eW) ts) 0 ts.length 1 = List.map (lst eW) ts := cutCells_all _ _ _ (by simp)
        have e1 : ∀ x : Blk, (tRows ts ++ [x])[s.1.length]? = some x := fun x => by rw [← htl]; exact tRowsA_end
        have e2 : ∀ x y : Blk, (tRows ts ++ [x]).set s.1.length y = tRows ts ++ [y] := fun x y => by rw [← htl]; exact tRowsA_put ts x y
        have e3 : ∀ H, V.settleL (s.1.length + 1 + 1 + 1 + 1) H (tCells ts) = tCells ts := fun H => by rw [← htl]; exact settleL_ids _ H _ tCells_low
        have e4 : ∀ H, (tRows ts).map (settleBlk (s.1.length + 1 + 1 + 1 + 1) H) = tRows ts := fun H => settle_trows ts _ H
        have e5 : ∀ x : Blk, List.take s.1.length (tRows ts ++ [x]) = tRows ts := fun x => by rw [← htl]; simp
        have hB := fun lent x hx => ProcsBegins lent s ts x hx so
        refine loop_chg (dyn := [10]) (fun j : Nat => [(83, ii j)]) (fun _ => []) (fun _ => []) (fun j => j ≤ q) (fun j => q - j) hint_22_1 (by kernel_rfl) ?_ 0 (by simp) (by simp)
        intro j hjq IH2
        rw [lpB_eq]
        clear IH
        by_cases hj1 : j < q
        · have hjl : j < names.length := by omega
          have hbg := hqb j hj1
          have hplt := names[j].place.toNat_lt
          have hBj := fun lent => hB lent _ hplt
          rw [hbg] at hBj
          have hBj' : ∀ lent, pureV E (om E) 57 lent [.pcon [lst ePR s.1, lst eN s.2, .scon (ts.map (lst eW)) 0 s.1.length false] 0, .int .u32 names[j].place.toNat] = some (bb true) := fun lent => by rw [← htl]; exact hBj lent
          simp (disch := omega) [if_pos, if_neg, iteK_pos, iteK_neg, hjl, e1, e2, e3, e4, e5, view_tcellsX, canon_lsts, hcc, htl, hBj']
          exact IH2 (j + 1) _ _ (by omega) (by omega) (by simp)
        · obtain rfl : j = q := by omega
          by_cases hjl : j < names.length
          · have hbg := hqk hjl
            have hplt := names[j].place.toNat_lt
            have hBj := fun lent => hB lent _ hplt
            rw [hbg] at hBj
            have hBj' : ∀ lent, pureV E (om E) 57 lent [.pcon [lst ePR s.1, lst eN s.2, .scon (ts.map (lst eW)) 0 s.1.length false] 0, .int .u32 names[j].place.toNat] = some (bb false) := fun lent => by rw [← htl]; exact hBj lent
            simp (disch := omega) [if_pos, if_neg, iteK_pos, iteK_neg, hjl, e1, e2, e3, e4, e5, view_tcellsX, canon_lsts, hcc, htl, hBj']
          · cases lent
            · simp (disch := omega) [if_pos, if_neg, iteK_pos, iteK_neg, hjl, canon_lsts]
              rw [view_tcells 47 s _ []]
              simp (disch := omega) [if_pos, if_neg, iteK_pos, iteK_neg, hcc, htl, canon_lsts, procsV]
            · simp (disch := omega) [if_pos, if_neg, iteK_pos, iteK_neg, hjl, canon_lsts, stripL_tCells, tRows_strip]
              rw [view_tcells 47 s _ []]
              simp (disch := omega) [if_pos, if_neg, iteK_pos, iteK_neg, hcc, htl, canon_lsts, procsV]
/-- Do all names stand at beginnings of procedures? -/
def NamesAt (code : List Instr) (names : List Export) : Prop := ∀ i, (h : i < names.length) → beginsF (cutF code) names[i].place.toNat = true
theorem FindN_ok (lent) {names : List Export} (hnl : names.length < 4611686018427387904) {code : List Instr} {jumps : List Nat} (hf : CodeFits code jumps) (h : FindOk code jumps) (hn : NamesAt code names) :
    pureV E (om E) 22 lent [lst eInstr code, lst eW jumps, lst eExport names] = some (.tuple [procsV (cutF code) (tgtN (cutF code) jumps jumps.length), ii 0, ii 0]) := by
  have := FindN_walk lent names hnl code jumps hf.ins hf.len hf.words h.enc h.pos h.first code.length jumps.length names.length (Nat.le_refl _) h.faults (by omega) (Nat.le_refl _) h.jumps (by omega) (Nat.le_refl _) hn (fun h => absurd h (by omega))
  rw [this]
  simp [findRN]
theorem FindN_early {code : List Instr} {jumps : List Nat} (hf : CodeFits code jumps) (h : ¬ (encodes code ∧ 0 < code.length ∧ (code.getD 0 default).op = 3)) : ∃ at_ e : Nat, e ≠ 0 ∧ e < 140 ∧ ∀ (lent : Bool) (nm : List Export), pureV E (om E) 22 lent [lst eInstr code, lst eW jumps, lst eExport nm] = some (.tuple [.nilptr, ii at_, ii e]) := by
  obtain ⟨out, at_, e, hE, hE1, hE2, hE3⟩ := Encode code hf.ins
  by_cases he : e = 0
  · subst he
    obtain rfl := hE3 rfl
    have henc := hE1.mp rfl
    refine ⟨0, 130, by omega, by omega, fun lent nm => ?_⟩
    apply pu_22
    by_cases hc : 0 < code.length
    · have hne : code ≠ [] := by rintro rfl; simp at hc
      have hop : ¬ code[0].op = 3 := by
        intro hop
        exact h ⟨henc, hc, by simpa [List.getD, hc] using hop⟩
      simp (disch := omega) [if_pos, if_neg, iteK_pos, iteK_neg, Tryz.f22, hE, hc, hne, hop]
    · obtain rfl : code = [] := by cases code with | nil => rfl | cons x l => simp at hc
      rw [lst_nil] at hE
      simp (disch := omega) [if_pos, if_neg, iteK_pos, iteK_neg, Tryz.f22, hE]
  · refine ⟨at_, e, he, hE2, fun lent nm => ?_⟩
    apply pu_22
    simp (disch := omega) [if_pos, if_neg, iteK_pos, iteK_neg, Tryz.f22, hE, he]
theorem FindN_bad {names : List Export} (hnl : names.length < 4611686018427387904) {code : List Instr} {jumps : List Nat} (hf : CodeFits code jumps) (h : ¬ (FindOk code jumps ∧ NamesAt code names)) : ∃ at_ e : Nat, e ≠ 0 ∧ e < 140 ∧ ∀ (lent : Bool), pureV E (om E) 22 lent [lst eInstr code, lst eW jumps, lst eExport names] = some (.tuple [.nilptr, ii at_, ii e]) := by
  by_cases h1 : encodes code ∧ 0 < code.length ∧ (code.getD 0 default).op = 3
  · obtain ⟨k, k1, k2, k3⟩ := first_bad (fun i => faultAt (cutF code) code i ≠ 0) code.length
    obtain ⟨m, m1, m2, m3⟩ := first_bad (fun i => badJ (cutF code) jumps i) jumps.length
    obtain ⟨q, q1, q2, q3⟩ := first_bad (fun i => ∃ h : i < names.length, beginsF (cutF code) names[i].place.toNat = false) names.length
    have hw : ∀ (lent : Bool), _ := fun lent => FindN_walk lent names hnl code jumps hf.ins hf.len hf.words h1.1 h1.2.1 h1.2.2 k m q k1 (fun i hi => Classical.byContradiction (k2 i hi)) k3 m1 m2 m3 q1
      (fun i hi => by
        have := q2 i hi
        cases hb : beginsF (cutF code) (names[i]'(by omega)).place.toNat with
        | true => rfl
        | false => exact absurd ⟨by omega, hb⟩ this) (fun h => (q3 h).2)
    by_cases hk : k < code.length
    · refine ⟨k, faultAt (cutF code) code k, k3 hk, faultF_lt _ _ _, fun lent => ?_⟩
      rw [hw lent]; simp [findRN, hk]
    · by_cases hm : m < jumps.length
      · refine ⟨m, 134, by omega, by omega, fun lent => ?_⟩
        rw [hw lent]; simp [findRN, hk, hm]
      · by_cases hq : q < names.length
        · refine ⟨q, 135, by omega, by omega, fun lent => ?_⟩
          rw [hw lent]; simp [findRN, hk, hm, hq]
        · refine absurd ⟨⟨h1.1, h1.2.1, h1.2.2, fun i hi => Classical.byContradiction (k2 i (by omega)), fun i hi => m2 i (by omega)⟩, fun i hi => ?_⟩ h
          have := q2 i (by omega)
          cases hb : beginsF (cutF code) names[i].place.toNat with
          | true => rfl
          | false => exact absurd ⟨hi, hb⟩ this
  · obtain ⟨a, e, e0, e1, hB⟩ := FindN_early hf h1
    exact ⟨a, e, e0, e1, fun lent => hB lent names⟩
end Go.Proofs.YtnojknodojjnnaaGreat.Fl
end
section
namespace Go.Proofs.YtnojknodojjnnaaGreat.Fl
open Go Go.Sim
set_option maxRecDepth 100000
set_option linter.unusedSimpArgs false
set_option linter.unusedVariables false

/-- Procedures lie one behind the other. -/
structure Chain (s : PRs) : Prop where
  zero : 0 < s.1.length → (prOf s 0).b = 0
  next : ∀ k, k + 1 < s.1.length → (prOf s (k + 1)).b = (prOf s k).e
theorem cut_chain {code : List Instr} (h0 : (code.getD 0 default).op = 3) : ∀ n, Chain (cutN code n)
  | 0 => ⟨by simp [cutN], by simp [cutN]⟩
  | n + 1 => by
    have ih := cut_chain h0 n
    have hc := cut_ok h0 n
    have hp := fun h => cutN_pos h0 (n := n) h
    rw [cutN]
    by_cases hx : (code.getD n default).op = 3
    · rw [cutS_enter hx]
      generalize cutN code n = s at ih hc hp ⊢
      obtain ⟨ps, os⟩ := s
      obtain ⟨i1, i2⟩ := ih
      have hl := hc.last
      simp only [prOf] at *
      refine ⟨fun _ => ?_, fun k hk => ?_⟩
      all_goals simp only [prOf]
      · by_cases h : 0 < ps.length
        · rw [getD_app h]; exact i1 h
        · rw [getD_end (by omega)]
          dsimp only
          rcases Nat.eq_zero_or_pos n with h' | h'
          · exact h'
          · exact absurd (hp h') h
      · rw [List.length_append, List.length_singleton] at hk
        by_cases h : k + 1 < ps.length
        · rw [getD_app h, getD_app (by omega)]; exact i2 k h
        · have hk' : k = ps.length - 1 := by omega
          rw [getD_end (by omega), getD_app (by omega)]
          dsimp only
          rw [hk']; exact (hl (by omega)).symm
    · have hn : 0 < n := by
        rcases Nat.eq_zero_or_pos n with h' | h'
        · subst h'; exact absurd h0 hx
        · exact h'
      have hp' := hp hn
      generalize cutN code n = s at ih hc hp' ⊢
      obtain ⟨ps, os⟩ := s
      obtain ⟨q, p, rfl⟩ : ∃ q p, ps = q ++ [p] := ⟨ps.dropLast, ps.getLast (by rintro rfl; simp at hp'), (List.dropLast_concat_getLast _).symm⟩
      rw [cutS_on hx]
      obtain ⟨i1, i2⟩ := ih
      simp only [prOf] at *
      refine ⟨fun _ => ?_, fun k hk => ?_⟩
      all_goals simp only [prOf]
      · have := i1 (by simp)
        by_cases h : 0 < q.length
        · rw [getD_app h] at this ⊢; exact this
        · rw [getD_end (by omega)] at this ⊢; exact this
      · rw [List.length_append, List.length_singleton] at hk
        have := i2 k (by simp; omega)
        rw [getD_app (by omega : k < q.length)] at this ⊢
        by_cases h : k + 1 < q.length
        · rw [getD_app h] at this ⊢; exact this
        · rw [getD_end (by omega)] at this ⊢; exact this

def Rising (l : List Nat) : Prop := ∀ i j, (hij : i < j) → (h : j < l.length) → l[i]'(by omega) < l[j]
theorem Rising.snoc {l : List Nat} {x : Nat} (h : Rising l) (hx : ∀ y ∈ l, y < x) : Rising (l ++ [x]) := by
  intro i j hij hj
  rw [List.length_append, List.length_singleton] at hj
  by_cases hjl : j < l.length
  · rw [List.getElem_append_left hjl, List.getElem_append_left (by omega)]; exact h i j hij hjl
  · obtain rfl : j = l.length := by omega
    rw [List.getElem_append_left (by omega), List.getElem_append_right (by omega)]
    simp only [Nat.sub_self, List.getElem_cons_zero]
    exact hx _ (List.getElem_mem _)
theorem jumps_rise {s : PRs} {jumps : List Nat} (hb : ∀ i, i < jumps.length → ¬ badJ s jumps i) : ∀ m, m < jumps.length → ∀ j, j < m → jumps.getD j 0 < jumps.getD m 0
  | 0, _, j, hj => by omega
  | m + 1, hm, j, hj => by
    have := hb (m + 1) hm
    unfold badJ at this
    simp only [not_or, not_and, Nat.not_le] at this
    have h1 := this.1 (by omega)
    simp only [Nat.add_sub_cancel] at h1
    by_cases hjm : j = m
    · subst hjm; exact h1
    · have := jumps_rise hb m (by omega) j (by omega); omega
theorem tgt_rise {s : PRs} {jumps : List Nat} (hb : ∀ i, i < jumps.length → ¬ badJ s jumps i) : ∀ m, m ≤ jumps.length → ∀ k, Rising ((tgtN s jumps m).getD k []) ∧ ∀ x ∈ (tgtN s jumps m).getD k [], ∃ j, j < m ∧ x = jumps.getD j 0
  | 0, _, k => by
    have : (tgtN s jumps 0).getD k [] = [] := by
      rw [tgtN]
      by_cases hk : k < s.1.length
      · rw [getD_lt (by simpa using hk)]; simp
      · rw [getD_ge (by simp; omega)]
    rw [this]
    exact ⟨fun i j _ h => by simp at h, by simp⟩
  | m + 1, hm, k => by
    have ih := tgt_rise hb m (by omega)
    rw [tgtN, getD_set]
    split
    · rename_i hc
      rw [hc.1]
      obtain ⟨i1, i2⟩ := ih k
      refine ⟨i1.snoc fun y hy => ?_, fun x hx => ?_⟩
      · obtain ⟨j, hj, rfl⟩ := i2 y hy
        exact jumps_rise hb m (by omega) j hj
      · rcases List.mem_append.1 hx with h | h
        · obtain ⟨j, hj, e⟩ := i2 x h; exact ⟨j, by omega, e⟩
        · simp only [List.mem_singleton] at h; exact ⟨m, by omega, h⟩
    · obtain ⟨i1, i2⟩ := ih k
      exact ⟨i1, fun x hx => by obtain ⟨j, hj, e⟩ := i2 x hx; exact ⟨j, by omega, e⟩⟩
theorem tgt_mem {code : List Instr} {s : PRs} (hc : CutOk code code.length s) {jumps : List Nat} (hb : ∀ i, i < jumps.length → ¬ badJ s jumps i) : ∀ m, m ≤ jumps.length → ∀ j, j < m → jumps.getD j 0 ∈ (tgtN s jumps m).getD (ofI s (jumps.getD j 0)) []
  | 0, _, j, hj => by omega
  | m + 1, hm, j, hj => by
    have ih := tgt_mem hc hb m (by omega)
    rw [tgtN, getD_set]
    have hlt : ∀ q, q < jumps.length → ofI s (jumps.getD q 0) < s.1.length := fun q hq => by
      have := hb q hq
      unfold badJ at this
      simp only [not_or, not_and, Nat.not_le] at this
      exact hc.lt _ (by rw [← hc.len]; exact this.2.1)
    have hl := tgtN_len s jumps m
    by_cases hjm : j = m
    · subst hjm
      rw [if_pos ⟨rfl, by rw [hl]; exact hlt j (by omega)⟩]
      exact List.mem_append.2 (.inr (by simp))
    · have hm' := ih j (by omega)
      split
      · rename_i h
        refine List.mem_append.2 (.inl ?_)
        rw [h.1]; exact hm'
      · exact hm'
theorem tgt_iff {code : List Instr} {jumps : List Nat} (h : FindOk code jumps) {i : Nat} (hi : i < code.length) {x : Nat} (hx : x ∈ jumps) :
    x ∈ (tgts code jumps).getD (ofI (cutF code) i) [] ↔ (prOf (cutF code) (ofI (cutF code) i)).b < x ∧ x < (prOf (cutF code) (ofI (cutF code) i)).e := by
  have hc : CutOk code code.length (cutF code) := cut_ok h.first code.length
  constructor
  · intro hm
    obtain ⟨h1, h2, h3⟩ := tgt_in (code := code) h.jumps jumps.length (Nat.le_refl _) _ _ hm
    simpa [insideF] using h3
  · rintro ⟨h1, h2⟩
    obtain ⟨j, hj, rfl⟩ := List.getElem_of_mem hx
    have := tgt_mem hc h.jumps jumps.length (Nat.le_refl _) j hj
    rw [getD_lt hj, hc.conv _ (hc.lt i hi) _ (by omega) h2] at this
    exact this
end Go.Proofs.YtnojknodojjnnaaGreat.Fl
end
