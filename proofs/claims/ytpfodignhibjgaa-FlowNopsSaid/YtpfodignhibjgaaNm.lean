/-
  The law FlowNops.
-/
import Derived.Test.YtpfodignhibjgaaNl
section
namespace Go.Proofs.Ytpfodignhibjgaa
open Go Go.Sim
set_option maxRecDepth 100000
set_option maxHeartbeats 0
set_option linter.unusedSimpArgs false
set_option linter.unusedVariables false

/-- A nop in the place of an instruction. -/
def nopAt (code : List Instr) (q : Nat) : List Instr := code.set q ⟨1, 0⟩
theorem nopAt_len (code q) : (nopAt code q).length = code.length := by simp [nopAt]
theorem nopAt_get {code : List Instr} {q i : Nat} (h : i ≠ q) : (nopAt code q).getD i default = code.getD i default := by
  unfold nopAt; rw [getD_set, if_neg (by omega)]
theorem nopAt_at {code : List Instr} {q : Nat} (h : q < code.length) : (nopAt code q).getD q default = ⟨1, 0⟩ := by
  unfold nopAt; rw [getD_set, if_pos ⟨rfl, h⟩]
theorem cutS_no {s : PRs} {i : Nat} {x y : Instr} (hx : x.op ≠ 3) (hy : y.op ≠ 3) : cutS s i x = cutS s i y := by
  unfold cutS; rw [if_neg hx, if_neg hy]
theorem nop_cutN {code : List Instr} {q : Nat} (hq : q < code.length) (hop : (code.getD q default).op ≠ 3) : ∀ n, cutN (nopAt code q) n = cutN code n
  | 0 => rfl
  | n + 1 => by
    rw [cutN, cutN, nop_cutN hq hop n]
    by_cases h : n = q
    · subst h; exact cutS_no (by rw [nopAt_at hq]; simp) hop
    · rw [nopAt_get h]
theorem nop_cut {code : List Instr} {q : Nat} (hq : q < code.length) (hop : (code.getD q default).op ≠ 3) : cutF (nopAt code q) = cutF code := by
  unfold cutF; rw [nopAt_len]; exact nop_cutN hq hop _
theorem ds_up (code s ts) (j : Nat) : ∀ d k, 0 ≤ (dsN code s ts k).getD j 0 → 0 ≤ (dsN code s ts (k + d)).getD j 0
  | 0, k, h => h
  | d + 1, k, h => by
    have ih := ds_up code s ts j d k h
    rw [show k + (d + 1) = (k + d) + 1 by omega, dsN]
    have h0 : 0 ≤ ((dsN code s ts (k + d)).set ((s.1.getD (k + d) default).b) 0).getD j 0 := by
      rw [getD_set]; split <;> omega
    rw [walk_keep code s ts _ _ _ _ j h0]
    exact h0
theorem nop_ds {code : List Instr} {s : PRs} {ts : List (List Nat)} {q : Nat} (hc : CutOk code code.length s) (hnx : ∀ i, i < code.length → ∀ x ∈ nextF code s ts i, x < code.length ∧ ofI s x = ofI s i)
    (he : ∀ i, i < s.1.length → (walkN code s ts i).e = 0) (hq : (dsN code s ts s.1.length).getD q 0 < 0) : ∀ k, k ≤ s.1.length → dsN (nopAt code q) s ts k = dsN code s ts k ∧ ∀ i, i < k → walkN (nopAt code q) s ts i = walkN code s ts i
  | 0, _ => ⟨by rw [dsN, dsN, nopAt_len], fun i hi => by omega⟩
  | k + 1, hk => by
    obtain ⟨ih1, ih2⟩ := nop_ds hc hnx he hq k (by omega)
    have hI := ds_inv hc hnx k (by omega) (fun i hi => he i (by omega))
    have hpk := hc.pr k (by omega)
    have hb : (prOf s k).b < code.length := by omega
    have hw : walkN (nopAt code q) s ts k = walkN code s ts k := by
      have hek := he k (by omega)
      have hqk : (walkN code s ts k).ds.getD q 0 < 0 := by
        rcases Int.lt_or_le ((dsN code s ts (k + 1)).getD q 0) 0 with h | h
        · exact h
        · have := ds_up code s ts q (s.1.length - (k + 1)) (k + 1) h
          rw [show k + 1 + (s.1.length - (k + 1)) = s.1.length by omega] at this
          omega
      unfold walkN at hek hqk ⊢
      rw [nopAt_len, ih1]
      have hbl : (prOf s k).b < ((dsN code s ts k).set (prOf s k).b 0).length := by rw [List.length_set, hI.len]; exact hb
      have hng := neg_lt hbl (by simp)
      rw [List.length_set, hI.len] at hng
      refine walk_same (fun i hi => nopAt_get hi) (fun i hi x hx => (hnx i hi x hx).1) code.length _ _ 0 ⟨by rw [List.length_set, hI.len], fun v hv => ?_, fun x hx => ?_, ?_⟩ (fun y hy => ?_) hek hqk
      · rcases mem_set_or hv with h | h
        · exact hI.low v h
        · subst h; omega
      · simp only [List.mem_singleton] at hx
        subst hx
        show 0 ≤ ((prOf s k).b : Int) ∧ _
        exact ⟨by omega, by show ((prOf s k).b : Int) < _; omega⟩
      · show 1 + neg ((dsN code s ts k).set (prOf s k).b 0) ≤ _; omega
      · simp only [List.mem_singleton] at hy
        subst hy
        rw [Int.toNat_natCast]
        show 0 ≤ ((dsN code s ts k).set (prOf s k).b 0).getD (prOf s k).b 0
        rw [getD_set, if_pos ⟨rfl, by rw [hI.len]; exact hb⟩]; omega
    refine ⟨?_, fun i hi => ?_⟩
    · rw [dsN_succ, dsN_succ, hw]
    · by_cases hik : i = k
      · subst hik; exact hw
      · exact ih2 i (by omega)
abbrev codeV (code : List Instr) (jumps : List Nat) : V := .agg [lst eInstr code, lst eW jumps]
theorem nopN {code : List Instr} {q i : Nat} (h : i < code.length) : (nopAt code q).take (i + 1) = (nopAt code q).take i ++ [if i = q then ⟨1, 0⟩ else code[i]] := by
  rw [take_snoc (by rw [nopAt_len]; exact h)]
  congr 2
  unfold nopAt
  rw [List.getElem_set]
  by_cases e : q = i
  · rw [if_pos e, if_pos e.symm]
  · rw [if_neg e, if_neg (fun h => e h.symm)]
theorem nop_fits {code : List Instr} {jumps : List Nat} (hf : CodeFits code jumps) (q : Nat) : CodeFits (nopAt code q) jumps := by
  refine ⟨fun i hi => ?_, hf.len, hf.words⟩
  rcases List.mem_or_eq_of_mem_set hi with h | h
  · exact hf.ins i h
  · subst h; simp [insFits]
theorem FlowNops (code : List Instr) (jumps : List Nat) (at_ : Int) (hf : CodeFits code jumps) : pureV E (om E) 3 false [codeV code jumps, ii at_] = some (bb true) := by
  apply pu_3
  by_cases hF : FindOk code jumps
  · by_cases ha : AllOk code jumps
    · have hD := fun (B : List Blk) (r : Heap) (a1 a2 : V) (hv : viewArgs (B :: r) [a1, a2] = some [lst eInstr code, lst eW jumps]) => Depths_at hf hF ha hv
      have hcut : CutOk code code.length (cutF code) := cut_ok hF.first code.length
      have hI : DInv code (cutF code) (tgts code jumps) (cutF code).1.length (dsF code jumps) := ds_inv hcut (next_lt hF) (cutF code).1.length (Nat.le_refl _) ha
      have hne : code ≠ [] := by intro e; have := hF.pos; rw [e] at this; simp at this
      have hp := pickF_lt at_ hF.pos
      have hP := fun lent => KPick lent at_ code.length hF.pos hF.enc.1
      have hpl : pickF at_ code.length < (dsF code jumps).length := by rw [hI.len]; exact hp
      have hlen := hI.len
      have hnl : (needF code jumps).length = (cutF code).1.length := by simp [needF, needN]
      have hl := hF.enc.1
      generalize hq : pickF at_ code.length = q at *
      have hnop : (dsF code jumps)[q] < 0 → nopAt code q ≠ [] ∧ (FindOk (nopAt code q) jumps → cutF (nopAt code q) = cutF code ∧ AllOk (nopAt code q) jumps ∧ dsF (nopAt code q) jumps = dsF code jumps ∧ needF (nopAt code q) jumps = needF code jumps) := by
        intro hd
        refine ⟨by intro e; have := nopAt_len code q; rw [e] at this; simp at this; exact hne (List.length_eq_zero_iff.mp this.symm), fun hF' => ?_⟩
        have hop : (code.getD q default).op ≠ 3 := by
          intro h3
          have hb := hcut.ent q hp h3
          have hlt := hcut.lt q hp
          have := hI.begin (ofI (cutF code) q) hlt
          rw [hb, getD_lt hpl] at this
          omega
        have hc := nop_cut hp hop
        have ht : tgts (nopAt code q) jumps = tgts code jumps := by unfold tgts; rw [hc]
        have hds : (dsN code (cutF code) (tgts code jumps) (cutF code).1.length).getD q 0 < 0 := by
          show (dsF code jumps).getD q 0 < 0
          rw [getD_lt hpl]; exact hd
        have hsame := nop_ds hcut (next_lt hF) ha hds (cutF code).1.length (Nat.le_refl _)
        refine ⟨hc, ?_, ?_, ?_⟩
        · intro i hi
          rw [hc] at hi ⊢
          rw [ht, hsame.2 i hi]
          exact ha i hi
        · unfold dsF; rw [hc, ht]; exact hsame.1
        · unfold needF needN; rw [hc, ht]
          apply List.map_congr_left
          intro i hi
          rw [hsame.2 i (List.mem_range.mp hi)]
      simp (disch := omega) [if_pos, if_neg, iteK_pos, iteK_neg, Try.f3, Lives]
      rw [hD _ _ _ _ (by simp)]
      generalize hdsv : dsF code jumps = ds at *
      generalize hndv : needF code jumps = nd at *
      generalize graphV code jumps (cutF code) (tgts code jumps) = G at *
      by_cases hd : 0 ≤ ds[q]
      · simp (disch := omega) [if_pos, if_neg, iteK_pos, iteK_neg, hne, hlen, hP, eI_get, hpl, hd]
      · obtain ⟨hne', hn'⟩ := hnop (by omega)
        simp (disch := omega) [if_pos, if_neg, iteK_pos, iteK_neg, hne, hlen, hP, eI_get, hpl, hd]
        refine loop_chg (dyn := []) (fun i : Nat => [(10, .sref 0 11 0 i i (2, false)), (11, ii i)]) (fun _ => []) (fun i => [.row (cat eInstr ((nopAt code q).take i)) i 2 true true]) (fun i => i ≤ code.length) (fun i => code.length - i) hint_3_0 (by kernel_rfl) ?_ 0 (by simp) (by simp)
        intro i hi IH
        rw [lpB_eq]
        by_cases hlt : i < code.length
        · have hN := nopN (code := code) (q := q) hlt
          have hlen' : ((nopAt code q).take i).length = i := by rw [List.length_take, nopAt_len]; omega
          have hmin : min i code.length = i := by omega
          by_cases hiq : i = q
          · rw [if_pos hiq] at hN
            subst hiq
            simp (disch := omega) [if_pos, if_neg, iteK_pos, iteK_neg, hlt, nopAt_len, hmin]
            refine IH (i + 1) _ _ (by omega) (by omega) ?_
            rw [hN, cat_append]
            simp [cat_cons, List.take_take, Nat.min_self]
          · rw [if_neg hiq] at hN
            simp (disch := omega) [if_pos, if_neg, iteK_pos, iteK_neg, hlt, hiq, nopAt_len, hmin]
            refine IH (i + 1) _ _ (by omega) (by omega) ?_
            rw [hN, cat_append]
            simp [cat_cons, List.take_take, Nat.min_self]
        · obtain rfl : i = code.length := by omega
          have hvc : V.scon (V.canonL (cutCells (cat eInstr (nopAt code q)) 0 code.length 2)) 0 code.length false = lst eInstr (nopAt code q) := res_lst eInstr (nopAt_len code q).symm rfl
          have htk : (nopAt code q).take code.length = nopAt code q := List.take_of_length_le (by rw [nopAt_len]; exact Nat.le_refl _)
          by_cases hF' : FindOk (nopAt code q) jumps
          · obtain ⟨hc', ha', hd', hn''⟩ := hn' hF'
            have hFl := fun nm hnm => Find_lent (nm := nm) hnm (nop_fits hf q) hF'
            have hFl1 := hFl _ (.inl rfl)
            have hFl2 := hFl _ (.inr rfl)
            simp (disch := omega) [if_pos, if_neg, iteK_pos, iteK_neg, htk, hvc, hFl1, hFl2]
            rw [Depths_at (nop_fits hf q) hF' ha' (by simp [hvc])]
            rw [hd', hn'', hc', nopAt_len]
            generalize graphV (nopAt code q) jumps (cutF code) (tgts (nopAt code q) jumps) = G'
            have v1 : V.scon (V.canonL (cutCells (cat eI ds) 0 code.length 1)) 0 code.length false = lst eI ds := res_lst eI hlen.symm rfl
            have v2 : V.scon (V.canonL (cutCells (cat eI nd) 0 (cutF code).1.length 1)) 0 (cutF code).1.length false = lst eI nd := res_lst eI hnl.symm rfl
            have s1 := fun lent => SameInts lent ds (by omega)
            have s2 := fun lent => SameInts lent nd (by have := (cutN_len code code.length).2; show nd.length ≤ _; rw [hnl]; unfold cutF; omega)
            simp (disch := omega) [if_pos, if_neg, iteK_pos, iteK_neg, v1, v2, s1, s2]
          · obtain ⟨a, e, e0, e1, hB⟩ := Find_bad (nop_fits hf q) hF'
            have hB1 := fun lent => hB lent _ (.inl rfl)
            have hB2 := fun lent => hB lent _ (.inr rfl)
            simp (disch := omega) [if_pos, if_neg, iteK_pos, iteK_neg, htk, hvc, hB1, hB2, e0]
    · obtain ⟨a, e, he, hD⟩ := Depths_fail hf hF ha
      simp (disch := omega) [if_pos, if_neg, iteK_pos, iteK_neg, Try.f3, Lives]
      obtain ⟨X, hX⟩ := hD (a1 := lst eInstr code) (a2 := lst eW jumps) (B := [Blk.row [lst eInstr code, lst eW jumps] 0 2 true false]) (r := []) (by simp)
      rw [hX]
      have he0 : ¬ e = 0 := by omega
      simp (disch := omega) [if_pos, if_neg, iteK_pos, iteK_neg, he0]
  · obtain ⟨a, e, e0, e1, hB⟩ := Find_bad hf hF
    simp (disch := omega) [if_pos, if_neg, iteK_pos, iteK_neg, Try.f3, Lives]
    rw [Depths_bad e0 hB (by simp)]
    simp (disch := omega) [if_pos, if_neg, iteK_pos, iteK_neg, e0]
end Go.Proofs.Ytpfodignhibjgaa
end
