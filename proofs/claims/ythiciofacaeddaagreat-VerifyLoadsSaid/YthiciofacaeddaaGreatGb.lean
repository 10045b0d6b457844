/-
 Plain: what the document says of procedures is what package procs makes of them.
 The document's Find and Procs.
 The document's answer for layer 14, walked.
 Plain: the numbers of procedures; the document's walk is the program's.
-/
import Derived.Test.YthiciofacaeddaaGreatGa
import Derived.Test.YthiciofacaeddaaGreatFg
section
namespace Go.Proofs.YthiciofacaeddaaGreat.Fl
open Go Go.Sim
set_option maxRecDepth 100000
set_option linter.unusedSimpArgs false
set_option linter.unusedVariables false

theorem beginG_spec {code : List Instr} (h0 : (code.getD 0 default).op = 3) : ∀ i, (code.getD (beginG code i) default).op = 3 ∧ ∀ j, beginG code i < j → j ≤ i → (code.getD j default).op ≠ 3
 | 0 => ⟨by simpa [beginG] using h0, fun j h1 h2 => by omega⟩
 | i + 1 => by
  rw [beginG]
  split
  ·rename_i h
   exact ⟨h, fun j h1 h2 => by omega⟩
  ·rename_i h
   obtain ⟨h1, h2⟩ := beginG_spec h0 i
   refine ⟨h1, fun j h3 h4 => ?_⟩
   rcases Nat.lt_or_ge i j with h5 | h5
   ·obtain rfl : j = i + 1 := by omega
    exact h
   ·exact h2 j h3 h5
theorem endF_spec {code : List Instr} {i : Nat} (h : i ≤ code.length) : (∀ j, i ≤ j → j < endF code i → (code.getD j default).op ≠ 3) ∧ (endF code i < code.length → (code.getD (endF code i) default).op = 3) := by
 rw [endF]
 split
 ·split
  ·rename_i h1 h2
   exact ⟨fun j a b => by omega, fun _ => h2⟩
  ·rename_i h1 h2
   obtain ⟨h3, h4⟩ := endF_spec (code := code) (i := i + 1) (by omega)
   refine ⟨fun j a b => ?_, h4⟩
   rcases Nat.lt_or_ge i j with h5 | h5
   ·exact h3 j h5 b
   ·obtain rfl : j = i := by omega
    exact h2
 ·exact ⟨fun j a b => by omega, fun h => by omega⟩
termination_by code.length - i
theorem cut_f {code : List Instr} (h0 : (code.getD 0 default).op = 3) : ∀ n, ∀ k, k < (cutN code n).1.length → (prOf (cutN code n) k).f = (code.getD (prOf (cutN code n) k).b default).arg
 | 0 => by simp [cutN]
 | n + 1 => by
  have ih := cut_f h0 n
  have hp := fun h => cutN_pos h0 (n := n) h
  rw [cutN]
  by_cases hx : (code.getD n default).op = 3
  ·rw [cutS_enter hx]
   generalize cutN code n = s at ih hp ⊢
   obtain ⟨ps, os⟩ := s
   intro k hk
   simp only [prOf] at *
   rw [List.length_append, List.length_singleton] at hk
   by_cases h : k < ps.length
   ·rw [getD_app h]; exact ih k h
   ·rw [getD_end (by omega)]
  ·have hn : 0 < n := by
    rcases Nat.eq_zero_or_pos n with h' | h'
    ·subst h'; exact absurd h0 hx
    ·exact h'
   have hp' := hp hn
   generalize cutN code n = s at ih hp' ⊢
   obtain ⟨ps, os⟩ := s
   obtain ⟨q, p, rfl⟩ : ∃ q p, ps = q ++ [p] := ⟨ps.dropLast, ps.getLast (by rintro rfl; simp at hp'), (List.dropLast_concat_getLast _).symm⟩
   rw [cutS_on hx]
   intro k hk
   simp only [prOf] at *
   rw [List.length_append, List.length_singleton] at hk
   have := ih k (by simp; omega)
   by_cases h : k < q.length
   ·rw [getD_app h] at this ⊢; exact this
   ·rw [getD_end (by omega)] at this ⊢; exact this
section
variable {code : List Instr} (h0 : (code.getD 0 default).op = 3)
include h0
theorem begin_eq {i : Nat} (hi : i < code.length) : beginG code i = (prOf (cutF code) (ofI (cutF code) i)).b := by
 have hc : CutOk code code.length (cutF code) := cut_ok h0 code.length
 have hs := beginG_spec h0 i
 have hin := hc.ins i hi
 have hlt := hc.lt i hi
 have hpr := hc.pr _ hlt
 have hcv := hc.conv _ hlt
 have hle := beginG_le code i
 rcases Nat.lt_trichotomy (beginG code i) (prOf (cutF code) (ofI (cutF code) i)).b with h | h | h
 ·exact absurd hpr.2.2 (hs.2 _ h hin.1)
 ·exact h
 ·have he := hc.ent _ (by omega) hs.1
  rw [hcv _ (by omega) (by omega)] at he
  omega
theorem end_eq {i : Nat} (hi : i < code.length) : endF code (beginG code i + 1) = (prOf (cutF code) (ofI (cutF code) i)).e := by
 have hc : CutOk code code.length (cutF code) := cut_ok h0 code.length
 have hch : Chain (cutF code) := cut_chain h0 code.length
 have hin := hc.ins i hi
 have hlt := hc.lt i hi
 have hpr := hc.pr _ hlt
 have hcv := hc.conv _ hlt
 rw [begin_eq h0 hi]
 have hs := endF_spec (code := code) (i := (prOf (cutF code) (ofI (cutF code) i)).b + 1) (by omega)
 have hle := endF_le (code := code) (i := (prOf (cutF code) (ofI (cutF code) i)).b + 1) (by omega)
 have hno : ∀ j, (prOf (cutF code) (ofI (cutF code) i)).b < j → j < (prOf (cutF code) (ofI (cutF code) i)).e → (code.getD j default).op ≠ 3 := fun j h1 h2 h3 => by
  have he := hc.ent j (by omega) h3
  rw [hcv _ (by omega) (by omega)] at he
  omega
 have hend : (prOf (cutF code) (ofI (cutF code) i)).e < code.length → (code.getD (prOf (cutF code) (ofI (cutF code) i)).e default).op = 3 := fun h => by
  have hlast := hc.last (by omega)
  rcases Nat.lt_or_ge (ofI (cutF code) i + 1) (cutF code).1.length with h1 | h1
  ·have := hch.next _ h1
   rw [← this]
   have h2 := hc.pr _ h1
   exact h2.2.2
  ·rw [show (cutF code).1.length - 1 = ofI (cutF code) i by omega] at hlast
   omega
 rcases Nat.lt_trichotomy (endF code ((prOf (cutF code) (ofI (cutF code) i)).b + 1)) (prOf (cutF code) (ofI (cutF code) i)).e with h | h | h
 ·exact absurd (hs.2 (by omega)) (hno _ (by omega) h)
 ·exact h
 ·exact absurd (hend (by omega)) (hs.1 _ (by omega) h)
theorem frame_eq {i : Nat} (hi : i < code.length) : (prOf (cutF code) (ofI (cutF code) i)).f = (code.getD (beginG code i) default).arg := by
 have hc : CutOk code code.length (cutF code) := cut_ok h0 code.length
 rw [begin_eq h0 hi]
 exact cut_f h0 code.length _ (hc.lt i hi)
end
theorem kinds13_tab : (List.range 60).all (fun op => decide (op = 0 ∨ ((kindF op = 6 ↔ op = 3) ∧ (kindF op = 7 ↔ op = 4)))) = true := by decide
theorem kinds13 {op : Nat} (h : isOp op = true) : (kindF op = 6 ↔ op = 3) ∧ (kindF op = 7 ↔ op = 4) := by
 simp only [isOp, decide_eq_true_eq] at h
 have := List.all_eq_true.mp kinds13_tab op (List.mem_range.mpr (by omega))
 simp only [decide_eq_true_eq] at this
 rcases this with h0 | h0
 ·omega
 ·exact h0
theorem isOp_good {i : Instr} (h : insBad i = 0) : isOp i.op = true := by
 unfold insBad at h
 by_cases hc : isOp i.op = true
 ·exact hc
 ·rw [if_neg hc] at h; omega
theorem instr_fault {code : List Instr} (h0 : (code.getD 0 default).op = 3) (he : encodes code) {i : Nat} (hi : i < code.length) : instrF code i = faultAt (cutF code) code i := by
 have hb := begin_eq h0 hi
 have hee := end_eq h0 hi
 have hf := frame_eq h0 hi
 have hk := kinds13 (isOp_good (he.2 _ (List.getElem_mem hi)))
 rw [← getD_lt hi (d := default)] at hk
 have hP : (cutF code).1.getD ((cutF code).2.getD i 0) default = prOf (cutF code) (ofI (cutF code) i) := rfl
 unfold instrF faultAt faultF
 rw [hP, hf, hee]
 rw [hb] at *
 generalize (code.getD i default).op = o at *
 generalize (code.getD i default).arg = a at *
 generalize kindF o = k at *
 generalize (code.getD (prOf (cutF code) (ofI (cutF code) i)).b default).arg = f
 generalize prOf (cutF code) (ofI (cutF code) i) = p at *
 obtain ⟨hk6, hk7⟩ := hk
 have hin : insideF p a = false ↔ (a ≤ p.b ∨ p.e ≤ a) := by simp only [insideF, decide_eq_false_iff_not]; omega
 have hends : endsF k = false ↔ ¬ (k = 3 ∨ k = 4 ∨ k = 8) := by simp only [endsF, decide_eq_false_iff_not]
 simp only [hin, hends]
 by_cases c6 : k = 6
 ·have c3 := hk6.1 c6
  repeat' split
  all_goals first | rfl | (exfalso; omega)
 ·have c3 : o ≠ 3 := fun h => c6 (hk6.2 h)
  by_cases c7 : k = 7
  ·have c4 := hk7.1 c7
   repeat' split
   all_goals first | rfl | (exfalso; omega)
  ·have c4 : o ≠ 4 := fun h => c7 (hk7.2 h)
   repeat' split
   all_goals first | rfl | (exfalso; omega)
theorem inside_eq {code : List Instr} (h0 : (code.getD 0 default).op = 3) {x : Nat} : insideG code x = false ↔ ((cutF code).2.length ≤ x ∨ insideF ((cutF code).1.getD ((cutF code).2.getD x 0) default) x = false) := by
 have hc : CutOk code code.length (cutF code) := cut_ok h0 code.length
 have hlen : (cutF code).2.length = code.length := hc.len
 unfold insideG
 by_cases hx : x < code.length
 ·have hin := hc.ins x hx
  have hpr := hc.pr _ (hc.lt x hx)
  have hent := hc.ent x hx
  have hP : (cutF code).1.getD ((cutF code).2.getD x 0) default = prOf (cutF code) (ofI (cutF code) x) := rfl
  rw [hP]
  simp only [insideF, decide_eq_false_iff_not]
  constructor
  ·intro h
   right
   have h3 : (code.getD x default).op = 3 := Classical.byContradiction fun hn => h ⟨hx, hn⟩
   have := hent h3
   omega
  ·intro h ⟨_, h3⟩
   rcases h with h | h
   ·omega
   ·have : (prOf (cutF code) (ofI (cutF code) x)).b = x := by omega
    rw [this] at hpr
    exact h3 hpr.2.2
 ·simp only [decide_eq_false_iff_not]
  constructor
  ·intro _; left; omega
  ·intro _ h; omega
theorem badJ_eq {code : List Instr} (h0 : (code.getD 0 default).op = 3) (jumps : List Nat) (i : Nat) : badJ (cutF code) jumps i ↔ ((0 < i ∧ jumps.getD i 0 ≤ jumps.getD (i - 1) 0) ∨ insideG code (jumps.getD i 0) = false) := by
 unfold badJ
 rw [inside_eq h0]
theorem beginsF_eq {code : List Instr} (h0 : (code.getD 0 default).op = 3) (x : Nat) : beginsF (cutF code) x = decide (x < code.length ∧ (code.getD x default).op = 3) := by
 have hc : CutOk code code.length (cutF code) := cut_ok h0 code.length
 have hlen : (cutF code).2.length = code.length := hc.len
 unfold beginsF
 congr 1
 apply propext
 rw [hlen]
 have hP : (cutF code).1.getD ((cutF code).2.getD x 0) default = prOf (cutF code) (ofI (cutF code) x) := rfl
 rw [hP]
 constructor
 ·rintro ⟨h1, h2⟩
  have hpr := hc.pr _ (hc.lt x h1)
  rw [h2] at hpr
  exact ⟨h1, hpr.2.2⟩
 ·rintro ⟨h1, h2⟩
  exact ⟨h1, hc.ent x h1 h2⟩
theorem tgt_filter (s : PRs) (jumps : List Nat) (hb : ∀ t ∈ jumps, ofI s t < s.1.length) : ∀ m, m ≤ jumps.length → ∀ k, k < s.1.length → (tgtN s jumps m).getD k [] = (jumps.take m).filter (fun t => decide (ofI s t = k))
 | 0, _, k, hk => by
  rw [tgtN, getD_lt (by simpa using hk)]; simp
 | m + 1, hm, k, hk => by
  have ih := tgt_filter s jumps hb m (by omega)
  have hml : m < jumps.length := by omega
  rw [tgtN, getD_set, take_snoc hml, List.filter_append]
  rw [getD_lt hml]
  have ho : ofI s jumps[m] < s.1.length := hb _ (List.getElem_mem hml)
  have hs : s.2.getD jumps[m] 0 = ofI s jumps[m] := rfl
  rw [hs]
  by_cases he : ofI s jumps[m] = k
  ·rw [if_pos ⟨he, by rw [tgtN_len]; exact hk⟩, he, ih k hk]
   simp [he]
  ·rw [if_neg (by omega), ih k hk]
   simp [he]
end Go.Proofs.YthiciofacaeddaaGreat.Fl
end
section
namespace Go.Proofs.YthiciofacaeddaaGreat.Fl
open Go Go.Sim
set_option maxRecDepth 100000
set_option maxHeartbeats 0
set_option linter.unusedSimpArgs false
set_option linter.unusedVariables false

def find13 (code : List Instr) (jumps : List Nat) (names : List Export) (k m q : Nat) : V :=
 if k < code.length then .tuple [ii k, ii (faultAt (cutF code) code k)]
 else if m < jumps.length then .tuple [ii m, ii 134]
 else if q < names.length then .tuple [ii q, ii 135]
 else .tuple [ii 0, ii 0]
theorem GFind13 (lent) (names : List Export) (hnl : names.length < 4611686018427387904) (code : List Instr) (jumps : List Nat) (hf : CodeFits code jumps) (he : encodes code) (hEn : ∀ lent, ∃ out, pureV E (om E) 123 lent [lst eInstr code] = some (.tuple [out, ii 0, ii 0])) (hc : 0 < code.length) (h0 : (code.getD 0 default).op = 3) (hj : jumps.length ≤ 16384)
  (k m q : Nat) (hk : k ≤ code.length) (hb : ∀ i, i < k → faultAt (cutF code) code i = 0) (hbk : k < code.length → faultAt (cutF code) code k ≠ 0)
  (hm : m ≤ jumps.length) (hmb : ∀ i, i < m → ¬ badJ (cutF code) jumps i) (hmk : m < jumps.length → badJ (cutF code) jumps m)
  (hq : q ≤ names.length) (hqb : ∀ i, (h : i < q) → beginsF (cutF code) (names[i]'(by omega)).place.toNat = true) (hqk : (h : q < names.length) → beginsF (cutF code) names[q].place.toNat = false) : pureV E (om E) 64 lent [lst eInstr code, lst eW jumps, lst eExport names] = some (find13 code jumps names k m q) := by
 apply pu_64
 have hl := he.1
 have hne : code ≠ [] := by rintro rfl; simp at hc
 have hop : code[0].op = 3 := by simpa [List.getD, hc] using h0
 obtain ⟨o1, hE1⟩ := hEn false
 obtain ⟨o2, hE2⟩ := hEn true
 have hI := fun lent i (hi : i < code.length) => GInstr13 lent code i hi hl (hf.ins _ (List.getElem_mem hi))
 have hIn := fun lent i (hi : i < jumps.length) => GInside13 lent code jumps[i] (hf.words _ (List.getElem_mem hi)) hl
 unfold find13
 simp (disch := omega) [if_pos, if_neg, iteK_pos, iteK_neg, Tryz.f64, hE1, hE2, hc, hne, hop]
 refine loop_chg (dyn := []) (fun n : Nat => [(11, ii n)]) (fun _ => []) (fun n => []) (fun n => n ≤ k) (fun n => k - n) hint_64_0 (by kernel_rfl) ?_ 0 (by omega) (by simp)
 intro i hi IH
 rw [lpB_eq]
 by_cases hik : i < k
 ·have hlt : i < code.length := by omega
  have hIi := fun lent => hI lent i hlt
  rw [instr_fault h0 he hlt, hb i hik] at hIi
  simp (disch := omega) [if_pos, if_neg, iteK_pos, iteK_neg, hlt, hIi]
  exact IH (i + 1) _ _ (by omega) (by omega) (by simp)
 ·obtain rfl : i = k := by omega
  clear IH
  by_cases hlt : i < code.length
  ·have hIi := fun lent => hI lent i hlt
   rw [instr_fault h0 he hlt] at hIi
   have hbi := hbk hlt
   generalize faultAt (cutF code) code i = fa at *
   simp (disch := omega) [if_pos, if_neg, iteK_pos, iteK_neg, hlt, hIi, hbi]
  ·obtain rfl : i = code.length := by omega
   simp (disch := omega) [if_pos, if_neg, iteK_pos, iteK_neg]
   refine loop_chg (dyn := []) (fun n : Nat => [(12, ii n)]) (fun _ => []) (fun n => []) (fun n => n ≤ m) (fun n => m - n) hint_64_1 (by kernel_rfl) ?_ 0 (by omega) (by simp)
   intro j hjm IH
   rw [lpB_eq]
   by_cases hj1 : j < m
   ·have hjl : j < jumps.length := by omega
    have hbj := hmb j hj1
    rw [badJ_eq h0, not_or] at hbj
    obtain ⟨b1, b2⟩ := hbj
    have hInj := fun lent => hIn lent j hjl
    rw [getD_lt hjl] at b1 b2
    have b2' : insideG code jumps[j] = true := by simpa using b2
    rw [b2'] at hInj
    by_cases hj0 : 0 < j
    ·have b1' : ¬ jumps[j] ≤ jumps[j - 1] := fun h => b1 ⟨hj0, by rw [getD_lt (show j - 1 < jumps.length by omega)]; exact h⟩
     simp (disch := omega) [if_pos, if_neg, iteK_pos, iteK_neg, hjl, hj0, b1', hInj, eW_get]
     exact IH (j + 1) _ _ (by omega) (by omega) (by simp)
    ·obtain rfl : j = 0 := by omega
     simp (disch := omega) [if_pos, if_neg, iteK_pos, iteK_neg, hjl, hInj, eW_get]
     exact IH 1 _ _ (by omega) (by omega) (by simp)
   ·obtain rfl : j = m := by omega
    clear IH
    by_cases hjl : j < jumps.length
    ·have hbj := hmk hjl
     rw [badJ_eq h0] at hbj
     have hInj := fun lent => hIn lent j hjl
     rw [getD_lt hjl] at hbj
     by_cases b1 : 0 < j ∧ jumps[j] ≤ jumps.getD (j - 1) 0
     ·obtain ⟨hj0, b1⟩ := b1
      rw [getD_lt (show j - 1 < jumps.length by omega)] at b1
      simp (disch := omega) [if_pos, if_neg, iteK_pos, iteK_neg, hjl, hj0, b1, eW_get]
     ·have b2 : insideG code jumps[j] = false := by
       rcases hbj with h | h
       ·exact absurd h b1
       ·exact h
      rw [b2] at hInj
      by_cases hj0 : 0 < j
      ·have b1' : ¬ jumps[j] ≤ jumps[j - 1] := fun h => b1 ⟨hj0, by rw [getD_lt (show j - 1 < jumps.length by omega)]; exact h⟩
       simp (disch := omega) [if_pos, if_neg, iteK_pos, iteK_neg, hjl, hj0, b1', hInj, eW_get]
      ·obtain rfl : j = 0 := by omega
       simp (disch := omega) [if_pos, if_neg, iteK_pos, iteK_neg, hjl, hInj, eW_get]
    ·obtain rfl : j = jumps.length := by omega
     simp (disch := omega) [if_pos, if_neg, iteK_pos, iteK_neg]
     refine loop_chg (dyn := []) (fun n : Nat => [(13, ii n)]) (fun _ => []) (fun n => []) (fun n => n ≤ q) (fun n => q - n) hint_64_2 (by kernel_rfl) ?_ 0 (by omega) (by simp)
     intro n hnq IH
     rw [lpB_eq]
     by_cases hn1 : n < q
     ·have hnl2 : n < names.length := by omega
      have hbn := hqb n hn1
      rw [beginsF_eq h0, decide_eq_true_eq] at hbn
      obtain ⟨n1, n2⟩ := hbn
      rw [getD_lt n1] at n2
      simp (disch := omega) [if_pos, if_neg, iteK_pos, iteK_neg, hnl2, n1, n2]
      exact IH (n + 1) _ _ (by omega) (by omega) (by simp)
     ·obtain rfl : n = q := by omega
      clear IH
      by_cases hnl2 : n < names.length
      ·have hbn := hqk hnl2
       rw [beginsF_eq h0, decide_eq_false_iff_not] at hbn
       by_cases n1 : names[n].place.toNat < code.length
       ·have n2 : ¬ code[names[n].place.toNat].op = 3 := fun h => hbn ⟨n1, by rw [getD_lt n1]; exact h⟩
        simp (disch := omega) [if_pos, if_neg, iteK_pos, iteK_neg, hnl2, n1, n2]
       ·simp (disch := omega) [if_pos, if_neg, iteK_pos, iteK_neg, hnl2, n1]
      ·simp (disch := omega) [if_pos, if_neg, iteK_pos, iteK_neg, hnl2]
theorem GFindFirst13 (lent) (names : List Export) (code : List Instr) (jumps : List Nat) (hl : code.length ≤ 16384) (hEn : ∀ lent, ∃ out, pureV E (om E) 123 lent [lst eInstr code] = some (.tuple [out, ii 0, ii 0])) (h : ¬ (0 < code.length ∧ (code.getD 0 default).op = 3)) : pureV E (om E) 64 lent [lst eInstr code, lst eW jumps, lst eExport names] = some (.tuple [ii 0, ii 130]) := by
 apply pu_64
 obtain ⟨o1, hE1⟩ := hEn false
 obtain ⟨o2, hE2⟩ := hEn true
 by_cases hc : 0 < code.length
 ·have hne : code ≠ [] := by rintro rfl; simp at hc
  have hop : ¬ code[0].op = 3 := by
   intro hop
   exact h ⟨hc, by simpa [List.getD, hc] using hop⟩
  simp (disch := omega) [if_pos, if_neg, iteK_pos, iteK_neg, Tryz.f64, hE1, hE2, hc, hne, hop]
 ·obtain rfl : code = [] := by cases code with | nil => rfl | cons x l => simp at hc
  rw [lst_nil] at hE1 hE2
  simp (disch := omega) [if_pos, if_neg, iteK_pos, iteK_neg, Tryz.f64, hE1, hE2]
end Go.Proofs.YthiciofacaeddaaGreat.Fl
end
section
namespace Go.Proofs.YthiciofacaeddaaGreat.Fl
open Go Go.Sim
set_option maxRecDepth 100000
set_option maxHeartbeats 0
set_option linter.unusedSimpArgs false
set_option linter.unusedVariables false

def entersN (code : List Instr) : Nat → Nat
 | 0 => 0
 | i + 1 => entersN code i + (if (code.getD i default).op = 3 then 1 else 0)
def ofG (code : List Instr) (x : Nat) : Int := if x < code.length then (entersN code (x + 1) : Int) - 1 else -1
theorem entersN_le (code : List Instr) : ∀ i, entersN code i ≤ i
 | 0 => Nat.le_refl _
 | i + 1 => by rw [entersN]; have := entersN_le code i; split <;> omega
theorem GOf13 (lent) (code : List Instr) (x : Nat) (hx : x < 4294967296) (hl : code.length ≤ 16384) : pureV E (om E) 191 lent [lst eInstr code, .int .u32 x] = some (ii (ofG code x)) := by
 apply pu_191
 unfold ofG
 by_cases h : x < code.length
 ·simp (disch := omega) [if_pos, if_neg, iteK_pos, iteK_neg, Tryz.f191, h]
  refine loop_chg (dyn := []) (fun n : Nat => [(5, ii ((entersN code n : Int) - 1)), (6, ii n)]) (fun _ => []) (fun n => []) (fun n => n ≤ x + 1) (fun n => x + 1 - n) hint_191_0 (by kernel_rfl) ?_ 0 (by omega) (by simp [entersN])
  intro n hn IH
  rw [lpB_eq]
  have hen := entersN_le code n
  by_cases hnx : n ≤ x
  ·have hnl : n < code.length := by omega
   have hst : entersN code (n + 1) = entersN code n + (if code[n].op = 3 then 1 else 0) := by rw [entersN, getD_lt hnl]
   by_cases h3 : code[n].op = 3
   ·rw [if_pos h3] at hst
    simp (disch := omega) [if_pos, if_neg, iteK_pos, iteK_neg, hnx, hnl, h3]
    refine IH (n + 1) _ _ (by omega) (by omega) ?_
    rw [hst]
    simp
   ·rw [if_neg h3] at hst
    simp (disch := omega) [if_pos, if_neg, iteK_pos, iteK_neg, hnx, hnl, h3]
    refine IH (n + 1) _ _ (by omega) (by omega) ?_
    rw [hst]
    simp
  ·obtain rfl : n = x + 1 := by omega
   simp (disch := omega) [if_pos, if_neg, iteK_pos, iteK_neg, hnx]
 ·simp (disch := omega) [if_pos, if_neg, iteK_pos, iteK_neg, Tryz.f191, h]
theorem filter_snoc {α : Type} (l : List α) (p : α → Bool) {n : Nat} (h : n < l.length) : (l.take (n + 1)).filter p = (l.take n).filter p ++ (if p l[n] then [l[n]] else []) := by
 rw [take_snoc h, List.filter_append]
 by_cases hp : p l[n] = true <;> simp [hp]
theorem GTargets13 (code : List Instr) (jumps : List Nat) (k : Int) (hl : code.length ≤ 16384) (hj : jumps.length ≤ 16384) (hf : ∀ t ∈ jumps, t < 4294967296) : pureV E (om E) 190 false [lst eInstr code, lst eW jumps, ii k] = some (lst eW (jumps.filter fun t => decide (ofG code t = k))) := by
 apply pu_190
 simp (disch := omega) [if_pos, if_neg, iteK_pos, iteK_neg, Tryz.f190]
 have hO := fun lent i (h : i < jumps.length) => GOf13 lent code jumps[i] (hf _ (List.getElem_mem h)) hl
 refine loop_chg (dyn := []) (fun n : Nat => [(7, .sref 0 0 0 ((jumps.take n).filter fun t => decide (ofG code t = k)).length ((jumps.take n).filter fun t => decide (ofG code t = k)).length (1, false)), (8, ii n)]) (fun _ => []) (fun n => [.row (cat eW ((jumps.take n).filter fun t => decide (ofG code t = k))) ((jumps.take n).filter fun t => decide (ofG code t = k)).length 1 true true]) (fun n => n ≤ jumps.length) (fun n => jumps.length - n) hint_190_0 (by kernel_rfl) ?_ 0 (by omega) (by simp)
 intro n hn IH
 rw [lpB_eq]
 by_cases h : n < jumps.length
 ·have hsn := filter_snoc jumps (fun t => decide (ofG code t = k)) h
  have hle : ((jumps.take n).filter fun t => decide (ofG code t = k)).length ≤ n := Nat.le_trans (List.length_filter_le _ _) (by simp; omega)
  have hOn := fun lent => hO lent n h
  generalize hF : ((jumps.take n).filter fun t => decide (ofG code t = k)) = F at *
  by_cases ho : ofG code jumps[n] = k
  ·have ho' : decide (ofG code jumps[n] = k) = true := by simp [ho]
   rw [if_pos ho'] at hsn
   simp (disch := omega) [if_pos, if_neg, iteK_pos, iteK_neg, h, hOn, ho, eW_get]
   refine IH (n + 1) _ _ (by omega) (by omega) ?_
   rw [hsn]
   simp [cat_append, cat_cons]
  ·have ho' : ¬ decide (ofG code jumps[n] = k) = true := by simp [ho]
   rw [if_neg ho'] at hsn
   simp (disch := omega) [if_pos, if_neg, iteK_pos, iteK_neg, h, hOn, ho, eW_get]
   refine IH (n + 1) _ _ (by omega) (by omega) ?_
   rw [hsn]
   simp
 ·obtain rfl : n = jumps.length := by omega
  simp (disch := omega) [if_pos, if_neg, iteK_pos, iteK_neg]
end Go.Proofs.YthiciofacaeddaaGreat.Fl
end
section
namespace Go.Proofs.YthiciofacaeddaaGreat.Fl
open Go Go.Sim
set_option maxRecDepth 100000
set_option linter.unusedSimpArgs false
set_option linter.unusedVariables false

theorem cut_enters {code : List Instr} (h0 : (code.getD 0 default).op = 3) : ∀ n, (cutN code n).1.length = entersN code n
 | 0 => rfl
 | n + 1 => by
  have ih := cut_enters h0 n
  rw [cutN, entersN]
  by_cases hx : (code.getD n default).op = 3
  ·rw [cutS_enter hx, if_pos hx]; simp [ih]
  ·have hn : 0 < n := by
    rcases Nat.eq_zero_or_pos n with h' | h'
    ·subst h'; exact absurd h0 hx
    ·exact h'
   have hp := cutN_pos h0 hn
   rw [if_neg hx]
   generalize cutN code n = s at ih hp ⊢
   obtain ⟨ps, os⟩ := s
   obtain ⟨q, p, rfl⟩ : ∃ q p, ps = q ++ [p] := ⟨ps.dropLast, ps.getLast (by rintro rfl; simp at hp), (List.dropLast_concat_getLast _).symm⟩
   rw [cutS_on hx]
   simp at ih ⊢
   exact ih
theorem cut_of {code : List Instr} (h0 : (code.getD 0 default).op = 3) : ∀ n i, i < n → (cutN code n).2.getD i 0 + 1 = entersN code (i + 1)
 | 0, i, hi => by omega
 | n + 1, i, hi => by
  have ih := cut_of h0 n
  have hl := cutN_len code n
  have he := cut_enters h0 n
  rw [cutN]
  by_cases hx : (code.getD n default).op = 3
  ·rw [cutS_enter hx]
   dsimp only
   by_cases hin : i < n
   ·rw [getD_app (by omega)]; exact ih i hin
   ·obtain rfl : i = n := by omega
    rw [getD_end hl.1.symm, entersN, if_pos hx, he]
  ·have hn : 0 < n := by
    rcases Nat.eq_zero_or_pos n with h' | h'
    ·subst h'; exact absurd h0 hx
    ·exact h'
   have hp := cutN_pos h0 hn
   generalize hs : cutN code n = s at ih hp hl he ⊢
   obtain ⟨ps, os⟩ := s
   obtain ⟨q, p, rfl⟩ : ∃ q p, ps = q ++ [p] := ⟨ps.dropLast, ps.getLast (by rintro rfl; simp at hp), (List.dropLast_concat_getLast _).symm⟩
   rw [cutS_on hx]
   dsimp only at *
   by_cases hin : i < n
   ·rw [getD_app (by omega)]; exact ih i hin
   ·obtain rfl : i = n := by omega
    rw [getD_end hl.1.symm, entersN, if_neg hx, ← he]; simp
theorem ofG_eq {code : List Instr} (h0 : (code.getD 0 default).op = 3) {x : Nat} (hx : x < code.length) : ofG code x = (ofI (cutF code) x : Int) := by
 have := cut_of h0 code.length x hx
 unfold ofG ofI
 rw [if_pos hx]
 show (entersN code (x + 1) : Int) - 1 = ((cutF code).2.getD x 0 : Int)
 rw [← this]
 show (((cutF code).2.getD x 0 + 1 : Nat) : Int) - 1 = _
 omega
theorem targets_eq {code : List Instr} {jumps : List Nat} (h : FindOk code jumps) {i : Nat} (hi : i < code.length) : (jumps.filter fun t => decide (ofG code t = ofG code i)) = (tgts code jumps).getD (ofI (cutF code) i) [] := by
 have hc : CutOk code code.length (cutF code) := cut_ok h.first code.length
 have hin : ∀ t ∈ jumps, t < code.length := fun t ht => by
  obtain ⟨k, hk, rfl⟩ := List.getElem_of_mem ht
  have hb := h.jumps k hk
  unfold badJ at hb
  have := hc.len
  rw [getD_lt hk] at hb
  omega
 unfold tgts
 rw [tgt_filter (cutF code) jumps (fun t ht => hc.lt t (hin t ht)) jumps.length (Nat.le_refl _) _ (hc.lt i hi), List.take_length]
 refine List.filter_congr fun t ht => ?_
 rw [ofG_eq h.first (hin t ht), ofG_eq h.first hi]
 congr 1
 exact propext (by omega)
structure WB (n b e : Nat) (W : List Bool) (w ds : List Int) : Prop where
 len : W.length = n
 ok : WOk n w ds
 ord : hpOrd w.length w
 nd : w.Nodup
 mark : ∀ j, j < n → (W.getD j false = true ↔ (j : Int) ∈ w)
 pos : ∀ x ∈ w, 0 ≤ ds.getD x.toNat 0
 rng : ∀ x ∈ w, (b : Int) ≤ x ∧ x < e
theorem WB.pop {n b e : Nat} {W : List Bool} {w ds : List Int} (h : WB n b e W w ds) {i : Nat} (hi : i < n) (hw : W.getD i false = true) (hlow : ∀ j, b ≤ j → j < i → W.getD j false = false) : 0 < w.length ∧ (popF w).1 = i ∧ WB n b e (W.set i false) (popF w).2 ds := by
 have hm := (h.mark i hi).1 hw
 have h0 : 0 < w.length := List.length_pos_of_mem hm
 obtain ⟨l1, l2⟩ := popF_low h0 h.ord
 have hp := popF_perm h0
 have hpm : (popF w).1 ∈ w := hp.mem_iff.1 (by simp)
 obtain ⟨p0, p1, p2⟩ := popOk h.ok h0
 have hnd : ((popF w).1 :: (popF w).2).Nodup := hp.nodup_iff.2 h.nd
 have he : (popF w).1 = i := by
  have h1 := l1 _ hm
  have h2 := h.rng _ hpm
  rcases Int.lt_or_le (popF w).1 i with h3 | h3
  ·obtain ⟨q, hq⟩ := Int.eq_ofNat_of_zero_le p0
   have := hlow q (by omega) (by omega)
   have h4 := (h.mark q (by omega)).2 (by rw [← hq]; exact hpm)
   rw [this] at h4; cases h4
  ·omega
 refine ⟨h0, he, by rw [List.length_set]; exact h.len, p2, l2, (List.nodup_cons.1 hnd).2, fun j hj => ?_, fun x hx => h.pos x (hp.mem_iff.1 (List.mem_cons_of_mem _ hx)), fun x hx => h.rng x (hp.mem_iff.1 (List.mem_cons_of_mem _ hx))⟩
 rw [getD_set]
 have hmj := h.mark j hj
 have hpj : (j : Int) ∈ w ↔ (j : Int) = (popF w).1 ∨ (j : Int) ∈ (popF w).2 := by rw [← hp.mem_iff, List.mem_cons]
 by_cases hij : i = j
 ·subst hij
  rw [if_pos ⟨rfl, by rw [h.len]; exact hi⟩]
  constructor
  ·intro hf; cases hf
  ·intro hf
   rw [he] at hnd
   exact absurd hf (List.nodup_cons.1 hnd).1
 ·rw [if_neg (by omega), hmj, hpj, he]
  constructor
  ·rintro (h1 | h1)
   ·omega
   ·exact h1
  ·exact .inr
theorem WB.push {n b e : Nat} {W : List Bool} {w ds : List Int} (h : WB n b e W w ds) {x : Nat} (hx : x < n) (hr : b ≤ x ∧ x < e) {d2 : Int} (h0 : 0 ≤ d2) (h64 : d2 ≤ 64) (hn : ds.getD x 0 < 0) : WB n b e (W.set x true) (pushF w x) (ds.set x d2) := by
 have hp := pushF_perm w x
 have hxw : (x : Int) ∉ w := fun hm => by
  have := h.pos _ hm
  rw [Int.toNat_natCast] at this
  omega
 refine ⟨by rw [List.length_set]; exact h.len, nextOk_push h.ok hx h0 h64 hn, pushF_ord x h.ord, hp.nodup_iff.2 (List.nodup_cons.2 ⟨hxw, h.nd⟩), fun j hj => ?_, fun y hy => ?_, fun y hy => ?_⟩
 ·rw [getD_set, hp.mem_iff, List.mem_cons]
  by_cases hxj : x = j
  ·subst hxj
   rw [if_pos ⟨rfl, by rw [h.len]; exact hx⟩]
   simp
  ·rw [if_neg (by omega), h.mark j hj]
   constructor
   ·exact .inr
   ·rintro (h1 | h1)
    ·omega
    ·exact h1
 ·rw [getD_set]
  rcases List.mem_cons.1 (hp.mem_iff.1 hy) with rfl | hy'
  ·rw [Int.toNat_natCast, if_pos ⟨rfl, by rw [h.ok.len]; exact hx⟩]; exact h0
  ·split
   ·exact h0
   ·exact h.pos y hy'
 ·rcases List.mem_cons.1 (hp.mem_iff.1 hy) with rfl | hy'
  ·omega
  ·exact h.rng y hy'
theorem WB.none {n b e : Nat} {W : List Bool} {w ds : List Int} (h : WB n b e W w ds) (he : e ≤ n) (hlow : ∀ j, b ≤ j → j < e → W.getD j false = false) : w = [] := by
 cases w with
 | nil => rfl
 | cons x w =>
  have hr := h.rng x (by simp)
  have hi := h.ok.ins x (by simp)
  obtain ⟨q, rfl⟩ := Int.eq_ofNat_of_zero_le hi.1
  have := hlow q (by omega) (by omega)
  have h4 := (h.mark q (by omega)).2 (by simp)
  rw [this] at h4; cases h4
theorem WB.first {n b e : Nat} {ds : List Int} (hb : b < n) (hbe : b < e) (hds : ds.length = n) (hlow : ∀ v ∈ ds, -1 ≤ v ∧ v ≤ 64) : WB n b e ((List.replicate n false).set b true) [(b : Int)] (ds.set b 0) := by
 have hbl : b < (ds.set b 0).length := by rw [List.length_set, hds]; exact hb
 have hng := neg_lt hbl (by simp)
 rw [List.length_set, hds] at hng
 refine ⟨by simp, ⟨by rw [List.length_set, hds], fun v hv => ?_, fun x hx => ?_, ?_⟩, fun j h1 h2 => ?_, by simp, fun j hj => ?_, fun x hx => ?_, fun x hx => ?_⟩
 ·rcases mem_set_or hv with h | h
  ·exact hlow v h
  ·subst h; simp
 ·simp at hx; subst hx; omega
 ·show 1 + neg (ds.set b 0) ≤ n; omega
 ·simp at h2; omega
 ·rw [getD_set]
  by_cases hbj : b = j
  ·subst hbj; simp [hb]
  ·rw [if_neg (by omega), getD_lt (by simpa using hj)]
   simp; omega
 ·simp at hx; subst hx
  rw [Int.toNat_natCast, getD_set, if_pos ⟨rfl, by rw [hds]; exact hb⟩]; exact Int.le_refl _
 ·simp at hx; subst hx; omega
end Go.Proofs.YthiciofacaeddaaGreat.Fl
end
