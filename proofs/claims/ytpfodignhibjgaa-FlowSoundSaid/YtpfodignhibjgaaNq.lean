/-
  The law FlowSound.
-/
import Derived.Test.YtpfodignhibjgaaNl
import Derived.Test.YtpfodignhibjgaaMe
section
namespace Go.Proofs.Ytpfodignhibjgaa
open Go Go.Sim
set_option maxRecDepth 100000
set_option maxHeartbeats 0
set_option linter.unusedSimpArgs false
set_option linter.unusedVariables false

theorem kinds_all : (List.range 60).all (fun op => decide (op = 0 ∨ (1 ≤ kindF op ∧ kindF op ≤ 8))) = true := by decide
theorem kind_in {i : Instr} (h : insBad i = 0) : 1 ≤ kindF i.op ∧ kindF i.op ≤ 8 := by
  have hop : isOp i.op = true := by
    unfold insBad at h
    by_cases hc : isOp i.op = true
    · exact hc
    · rw [if_neg hc] at h; omega
  simp only [isOp, decide_eq_true_eq] at hop
  have := List.all_eq_true.mp kinds_all i.op (List.mem_range.mpr (by omega))
  simp only [decide_eq_true_eq] at this
  omega
theorem next_none {code : List Instr} {s : PRs} {ts : List (List Nat)} {i : Nat} (hk : 1 ≤ kindF (code.getD i default).op ∧ kindF (code.getD i default).op ≤ 8) (h : nextF code s ts i = []) :
    kindF (code.getD i default).op = 4 ∨ kindF (code.getD i default).op = 7 ∨ kindF (code.getD i default).op = 8 := by
  unfold nextF at h
  dsimp only at h
  by_cases k1 : kindF (code.getD i default).op = 1 ∨ kindF (code.getD i default).op = 6 ∨ kindF (code.getD i default).op = 5
  · rw [if_pos k1] at h; simp at h
  · rw [if_neg k1] at h
    by_cases k2 : kindF (code.getD i default).op = 2
    · rw [if_pos k2] at h; split at h <;> simp at h
    · rw [if_neg k2] at h
      by_cases k3 : kindF (code.getD i default).op = 3
      · rw [if_pos k3] at h; simp at h
      · omega
theorem Goes (lent) {code : List Instr} {jumps : List Nat} (hf : CodeFits code jumps) (hF : FindOk code jumps) (ds : List Int) (need : Int) (i : Nat) (hi : i < code.length) (hl : ds.length = code.length) (hlow : ∀ v ∈ ds, -1 ≤ v ∧ v ≤ 64)
    (hD : Done code (cutF code) (tgts code jumps) ds need i) : pureV E (om E) 13 lent [.agg [lst eInstr code, lst eW jumps], lst eI ds, ii need, ii i] = some (bb true) := by
  have hid : i < ds.length := by omega
  obtain ⟨d1, d2, d3, d4, d5⟩ := hD
  have hNx := Next_at hf hF i hi
  have hlt := next_lt hF i hi
  have hkk := kind_in (hF.enc.2 _ (List.getElem_mem hi))
  have hnn := next_none (code := code) (s := cutF code) (ts := tgts code jumps) (i := i) (by rw [getD_lt hi]; exact hkk)
  have hnl := nextF_len code (cutF code) (tgts code jumps) (fun l hl => Nat.le_trans (tgtN_le _ _ _ l hl) hf.len) i
  have h64 := hF.enc.1
  have hlo := hlow _ (List.getElem_mem hid)
  obtain ⟨k1, k2⟩ := takes_le code[i].op
  unfold leftF at d3 d5
  rw [getD_lt hi, getD_lt hid] at d1 d3 d5
  rw [getD_lt hid] at d2
  rw [getD_lt hi] at d4 hnn
  rw [getD_lt hid] at d4
  generalize nextF code (cutF code) (tgts code jumps) i = nx at *
  generalize htk : takesF code[i].op = tk at *
  generalize hgv : givesF code[i].op = gv at *
  generalize hkd : kindF code[i].op = kd at *
  generalize hdi : ds[i] = d at *
  have c1 : ¬ d < tk := by omega
  have c2 : ¬ need < d := by omega
  have c3 : ¬ need < d - tk + gv := by omega
  have e1 : (i : Int) % 4294967296 = i := by omega
  apply pu_13
  by_cases hx : nx = []
  · subst hx
    rw [lst_nil] at hNx
    rcases hnn rfl with h4 | h7 | h8
    · subst h4
      simp (disch := omega) [if_pos, if_neg, iteK_pos, iteK_neg, Try.f13, Info, hi, hid, hdi, takes_eq, gives_eq, kind_eq, htk, hgv, hkd, c1, c2, c3, e1, hNx]
      apply loop_next (dyn := []) hint_13_0 (by kernel_rfl)
      simp (disch := omega) [if_pos, if_neg, iteK_pos, iteK_neg]
      rw [lpB_eq]
      simp (disch := omega) [if_pos, if_neg, iteK_pos, iteK_neg]
    · subst h7
      have hd1 := d4 rfl
      subst hd1
      simp (disch := omega) [if_pos, if_neg, iteK_pos, iteK_neg, Try.f13, Info, hi, hid, hdi, takes_eq, gives_eq, kind_eq, htk, hgv, hkd, c1, c2, c3, e1, hNx]
      apply loop_next (dyn := []) hint_13_0 (by kernel_rfl)
      simp (disch := omega) [if_pos, if_neg, iteK_pos, iteK_neg]
      rw [lpB_eq]
      simp (disch := omega) [if_pos, if_neg, iteK_pos, iteK_neg]
    · subst h8
      simp (disch := omega) [if_pos, if_neg, iteK_pos, iteK_neg, Try.f13, Info, hi, hid, hdi, takes_eq, gives_eq, kind_eq, htk, hgv, hkd, c1, c2, c3, e1, hNx]
      apply loop_next (dyn := []) hint_13_0 (by kernel_rfl)
      simp (disch := omega) [if_pos, if_neg, iteK_pos, iteK_neg]
      rw [lpB_eq]
      simp (disch := omega) [if_pos, if_neg, iteK_pos, iteK_neg]
  · have hxl : ∀ k (h : k < nx.length), ∃ h1 : nx[k] < code.length, ds[nx[k]]'(by omega) = d - tk + gv := by
      intro k h
      have h1 := (hlt _ (List.getElem_mem h)).1
      have h2 := d5 _ (List.getElem_mem h)
      rw [getD_lt (by omega)] at h2
      exact ⟨h1, h2⟩
    by_cases h7 : kd = 7
    · subst h7
      have hd1 := d4 rfl
      subst hd1
      simp (disch := omega) [if_pos, if_neg, iteK_pos, iteK_neg, Try.f13, Info, hi, hid, hdi, takes_eq, gives_eq, kind_eq, htk, hgv, hkd, c1, c2, c3, e1, hNx, hx]
      refine loop_chg (dyn := []) (fun n : Nat => [(15, ii n)]) (fun _ => []) (fun _ => []) (fun n => n ≤ nx.length) (fun n => nx.length - n) hint_13_0 (by kernel_rfl) ?_ 0 (by simp) (by simp)
      intro k hk IH
      rw [lpB_eq]
      by_cases hkl : k < nx.length
      · obtain ⟨g1, g2⟩ := hxl k hkl
        simp (disch := omega) [if_pos, if_neg, iteK_pos, iteK_neg, hkl, hl, g1, g2]
        exact IH (k + 1) _ _ (by omega) (by omega) (by simp)
      · simp (disch := omega) [if_pos, if_neg, iteK_pos, iteK_neg, hkl]
    · simp (disch := omega) [if_pos, if_neg, iteK_pos, iteK_neg, Try.f13, Info, hi, hid, hdi, takes_eq, gives_eq, kind_eq, htk, hgv, hkd, c1, c2, c3, e1, hNx, h7, hx]
      refine loop_chg (dyn := []) (fun n : Nat => [(15, ii n)]) (fun _ => []) (fun _ => []) (fun n => n ≤ nx.length) (fun n => nx.length - n) hint_13_0 (by kernel_rfl) ?_ 0 (by simp) (by simp)
      intro k hk IH
      rw [lpB_eq]
      by_cases hkl : k < nx.length
      · obtain ⟨g1, g2⟩ := hxl k hkl
        simp (disch := omega) [if_pos, if_neg, iteK_pos, iteK_neg, hkl, hl, g1, g2]
        exact IH (k + 1) _ _ (by omega) (by omega) (by simp)
      · simp (disch := omega) [if_pos, if_neg, iteK_pos, iteK_neg, hkl]
theorem Depths_fails {code : List Instr} {jumps : List Nat} (hf : CodeFits code jumps) (h : FindOk code jumps) (ha : ¬ AllOk code jumps) : ∃ a e : Int, (e = 140 ∨ e = 141 ∨ e = 142 ∨ e = 143) ∧ ∀ {a1 a2 : V} {B : List Blk} {r : Heap}, viewArgs (B :: r) [a1, a2] = some [lst eInstr code, lst eW jumps] →
    ∃ Y, callV E (om E) 7 [a1, a2] (B :: r) = some (.tuple [.nilslice, .nilslice, ii a, ii e], (B ++ Y) :: r) := by
  obtain ⟨m, m1, m2, m3⟩ := first_bad (fun i => (walkN code (cutF code) (tgts code jumps) i).e ≠ 0) (cutF code).1.length
  have hmp : m < (cutF code).1.length := by
    rcases Nat.lt_or_ge m (cutF code).1.length with h | h
    · exact h
    · exact absurd (fun i hi => Classical.byContradiction (m2 i (by omega))) ha
  have hb := Depths_body hf h m m1 (fun k hk => Classical.byContradiction (m2 k hk)) m3
  unfold depR at hb
  rw [if_pos hmp] at hb
  have he := walk_e code (cutF code) (tgts code jumps) code.length ⟨[(((cutF code).1.getD m default).b : Int)], [], 0, true⟩ ((dsN code (cutF code) (tgts code jumps) m).set ((cutF code).1.getD m default).b 0) 0
  have he' := m3 hmp
  refine ⟨(walkN code (cutF code) (tgts code jumps) m).at_, (walkN code (cutF code) (tgts code jumps) m).e, ?_, ?_⟩
  · unfold walkN at he' ⊢; omega
  · intro a1 a2 B r hv
    refine ⟨(depE (graphV code jumps (cutF code) (tgts code jumps)) code.length (walkN code (cutF code) (tgts code jumps) m).ds (needN code (cutF code) (tgts code jumps) m) (ii (walkN code (cutF code) (tgts code jumps) m).at_) (ii (walkN code (cutF code) (tgts code jumps) m).e)).map (outBlk B.length), ?_⟩
    rw [call_7, hv]
    simp (disch := omega) [if_pos, if_neg, iteK_pos, iteK_neg, hb]
theorem FlowSound (code : List Instr) (jumps : List Nat) (hf : CodeFits code jumps) : pureV E (om E) 4 false [.agg [lst eInstr code, lst eW jumps]] = some (bb true) := by
  apply pu_4
  by_cases hF : FindOk code jumps
  · have hFd := Find_ok (.inr rfl) hf hF
    have hFd0 := Find_ok (.inl rfl) hf hF
    by_cases ha : AllOk code jumps
    · have hD := fun (B : List Blk) (r : Heap) (a1 a2 : V) (hv : viewArgs (B :: r) [a1, a2] = some [lst eInstr code, lst eW jumps]) => Depths_at hf hF ha hv
      have hcut : CutOk code code.length (cutF code) := cut_ok hF.first code.length
      have hI : DInv code (cutF code) (tgts code jumps) (cutF code).1.length (dsF code jumps) := ds_inv hcut (next_lt hF) (cutF code).1.length (Nat.le_refl _) ha
      have hnl : (needF code jumps).length = (cutF code).1.length := by simp [needF, needN]
      have hnd : ∀ k, (h : k < (cutF code).1.length) → (needF code jumps)[k]'(by omega) = (walkN code (cutF code) (tgts code jumps) k).need := by
        intro k h; simp [needF, needN]
      have hl := hF.enc.1
      have hs1 : (cutF code).1.length ≤ code.length := (cutN_len code code.length).2
      have hlen := hI.len
      have hcnt := ProcsCount (cutF code) (tgtN (cutF code) jumps jumps.length) (by omega)
      have hOf := ProcsOf (cutF code) (tgtN (cutF code) jumps jumps.length)
      have hG := fun lent need i hi hDn => Goes lent hf hF (dsF code jumps) need i hi hlen hI.low hDn
      generalize hPV : procsV (cutF code) (tgtN (cutF code) jumps jumps.length) = PV at *
      have hPc : V.canon PV = PV := by rw [← hPV]; simp [canon_lsts]
      have hPf : V.flat PV = true := by rw [← hPV]; simp
      simp (disch := omega) [if_pos, if_neg, iteK_pos, iteK_neg, Try.f4, Lives]
      rw [hD _ _ _ _ (by simp)]
      generalize graphV code jumps (cutF code) (tgts code jumps) = G at *
      simp (disch := omega) [if_pos, if_neg, iteK_pos, iteK_neg, hFd, hFd0, hPc, hPf, hcnt]
      refine loop_chg (dyn := [20]) (fun i : Nat => [(10, ii i)]) (fun _ => []) (fun _ => []) (fun i => i ≤ code.length) (fun i => code.length - i) hint_4_0 (by kernel_rfl) ?_ 0 (by simp) (by simp)
      intro i hi IH
      rw [lpB_eq]
      by_cases hlt : i < code.length
      · have h2 : i < (cutF code).2.length := by rw [hcut.len]; exact hlt
        have ho : ofI (cutF code) i = (cutF code).2[i] := getD_lt h2
        have hol := hcut.lt i hlt
        have hid : i < (dsF code jumps).length := by omega
        have hnk := hnd _ hol
        have hn64 := hI.need _ hol
        have hent : code[i].op = 3 → (dsF code jumps)[i] = 0 := by
          intro h3
          have hb := hcut.ent i hlt (by rw [getD_lt hlt]; exact h3)
          have := hI.begin _ hol
          rw [hb, getD_lt hid] at this
          exact this
        have hdn := hI.dn i hlt hol
        rw [getD_lt hid] at hdn
        have e1 : (i : Int) % 4294967296 = i := by omega
        have hOi := hOf i h2 (by omega)
        have hGi := fun lent => hG lent (walkN code (cutF code) (tgts code jumps) (ofI (cutF code) i)).need i hlt
        rw [← ho] at hOi
        clear ho
        generalize (walkN code (cutF code) (tgts code jumps) (ofI (cutF code) i)).need = ne at *
        generalize ofI (cutF code) i = o at *
        have hon : o < (needF code jumps).length := by omega
        have v1 : V.scon (V.canonL (cutCells (cat eI (dsF code jumps)) 0 code.length 1)) 0 code.length false = lst eI (dsF code jumps) := res_lst eI hlen.symm rfl
        have n1 : ¬ ne < 0 := by omega
        have n2 : ¬ 64 < ne := by omega
        by_cases h3 : code[i].op = 3
        · have h0 := hent h3
          have hGi := fun lent => hGi lent (hdn (by omega))
          simp (disch := omega) [if_pos, if_neg, iteK_pos, iteK_neg, hlt, hOi, e1, hol, hon, eI_get, hid, hnk, n1, n2, h3, h0, hPc, hPf, v1, hGi]
          rw [iteK_pos (by kernel_rfl)]
          simp (disch := omega) [if_pos, if_neg, iteK_pos, iteK_neg, hlt, hOi, e1, hol, hon, eI_get, hid, hnk, n1, n2, h3, h0, hPc, hPf, v1, hGi]
          exact IH (i + 1) _ _ (by omega) (by omega) (by simp)
        · by_cases hd : (dsF code jumps)[i] < 0
          · simp (disch := omega) [if_pos, if_neg, iteK_pos, iteK_neg, hlt, hOi, e1, hol, hon, eI_get, hid, hnk, n1, n2, h3, hd, hPc, hPf]
            exact IH (i + 1) _ _ (by omega) (by omega) (by simp)
          · have hGi := fun lent => hGi lent (hdn (by omega))
            simp (disch := omega) [if_pos, if_neg, iteK_pos, iteK_neg, hlt, hOi, e1, hol, hon, eI_get, hid, hnk, n1, n2, h3, hd, hPc, hPf, v1, hGi]
            rw [iteK_pos (by kernel_rfl)]
            simp (disch := omega) [if_pos, if_neg, iteK_pos, iteK_neg, hlt, hOi, e1, hol, hon, eI_get, hid, hnk, n1, n2, h3, hd, hPc, hPf, v1, hGi]
            exact IH (i + 1) _ _ (by omega) (by omega) (by simp)
      · obtain rfl : i = code.length := by omega
        simp (disch := omega) [if_pos, if_neg, iteK_pos, iteK_neg]
    · obtain ⟨a, e, he, hD⟩ := Depths_fails hf hF ha
      simp (disch := omega) [if_pos, if_neg, iteK_pos, iteK_neg, Try.f4, Lives]
      obtain ⟨X, hX⟩ := hD (a1 := lst eInstr code) (a2 := lst eW jumps) (B := [Blk.row [lst eInstr code, lst eW jumps] 0 2 true false]) (r := []) (by simp)
      rw [hX]
      have he0 : ¬ e = 0 := by omega
      rcases he with rfl | rfl | rfl | rfl
      · simp (disch := omega) [if_pos, if_neg, iteK_pos, iteK_neg, hFd, hFd0]
      · simp (disch := omega) [if_pos, if_neg, iteK_pos, iteK_neg, hFd, hFd0]
      · simp (disch := omega) [if_pos, if_neg, iteK_pos, iteK_neg, hFd, hFd0]
      · simp (disch := omega) [if_pos, if_neg, iteK_pos, iteK_neg, hFd, hFd0]
  · obtain ⟨a, e, e0, e1, hB⟩ := Find_bad hf hF
    have hB1 := fun lent => hB lent _ (.inl rfl)
    have hB2 := fun lent => hB lent _ (.inr rfl)
    simp (disch := omega) [if_pos, if_neg, iteK_pos, iteK_neg, Try.f4, Lives]
    rw [Depths_bad e0 hB (by simp)]
    simp (disch := omega) [if_pos, if_neg, iteK_pos, iteK_neg, hB1, hB2, e0]
end Go.Proofs.Ytpfodignhibjgaa
end
