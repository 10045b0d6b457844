/-
 CellSound: enters.
-/
import Derived.Test.YtfplmcpkagpaiaaGreatDoorCd
set_option maxRecDepth 100000
set_option maxHeartbeats 0
set_option linter.unusedSimpArgs false
set_option linter.unusedVariables false
section
namespace Go.Proofs.YtfplmcpkagpaiaaGreatDoor.Fl
open Go Go.Sim Go.Sim.Cell
theorem next_arg {code : List Instr} {s : PRs} {ts : List (List Nat)} {i : Nat} (hk : kindF (code.getD i default).op = 3 ∨ kindF (code.getD i default).op = 2) : (code.getD i default).arg ∈ nextF code s ts i := by
 unfold nextF
 dsimp only
 generalize kindF (code.getD i default).op = k at *
 rcases hk with rfl | rfl
 ·rw [if_neg (by omega), if_neg (by omega), if_pos rfl]; simp
 ·rw [if_neg (by omega), if_pos rfl]
  split
  ·rename_i h; rw [h]; simp
  ·rcases Nat.lt_or_ge (i + 1) (code.getD i default).arg with h | h
   ·rw [Nat.max_eq_right (by omega)]; simp
   ·rw [Nat.min_eq_right (by omega)]; simp
theorem lead_begins {x : Img} (T : Taken x) {y : Nat} (h : leadF x y = true) : ∃ k, k < 16384 ∧ (begF (cF x).length (thL x))[y]? = some k := by
 have F := taken_facts T
 have hl := F.len
 rw [← code_len] at hl
 have hc := thL_cov T
 have hll := cov_len _ hc
 obtain ⟨z, h1, h2⟩ := rows_begin (code_good T) (leadL x) (numsF_rising _ _) (fun y hy => lead_lt ((leadL_mem T y).1 hy)) y ((leadL_mem T y).2 h)
 obtain ⟨i, hi, rfl⟩ := List.getElem_of_mem (show z ∈ thL x from h1)
 have := begF_cov (thL x) 0 0 (List.replicate (cF x).length 4294967295) hc (fun u hu => by
  obtain ⟨_, a2, a3, _, _⟩ := cov_mem _ hc u hu
  rw [List.length_replicate]; omega) i hi
 rw [h2, Nat.zero_add] at this
 exact ⟨i, by omega, this⟩
theorem LBegins (lent) {l : List Cl} {bg : List Nat} {i k : Nat} (hi : i < 4294967296) (hb : bg.length ≤ 16384) (h : bg[i]? = some k) (hk : k < 4294967295) : pureV E (om E) 35 lent [.agg [lst eCl l, lst eW bg], .int .u32 i] = some (bb true) := by
 obtain ⟨hlt, he⟩ := List.getElem?_eq_some_iff.1 h
 have hg := eW_get hlt
 rw [he] at hg
 have hk' : ¬ (k : Int) = 4294967295 := by omega
 apply pu_35
 simp (disch := omega) [if_pos, if_neg, iteK_pos, iteK_neg, Tryz.f35, hlt, he, eW_get, hk']
theorem goes_lt {x : Img} (T : Taken x) {i : Nat} (h : i < (cF x).length) (hk : kindF (cF x)[i].op = 3 ∨ kindF (cF x)[i].op = 2) : (cF x)[i].arg < (cF x).length := by
 have := (next_lt T.find i h _ (next_arg (code := cF x) (s := cutF (cF x)) (ts := tgts (cF x) (jF x)) (i := i) (by rw [getD_lt h]; exact hk))).1
 rw [getD_lt h] at this
 exact this
theorem jump_lt {x : Img} (T : Taken x) {i : Nat} (h : i < (jF x).length) : (jF x)[i] < (cF x).length := by
 have F := taken_facts T
 have hb := T.find.jumps i h
 have hn := F.cut.len
 unfold badJ at hb
 rw [getD_lt h] at hb
 rw [code_len, ← hn]
 exact Nat.lt_of_not_le fun hh => hb (.inr (.inl hh))
theorem back_lead {x : Img} (T : Taken x) {i : Nat} (h : i < (cF x).length) (hb : backF x.code (dF x) i = true) : leadF x i = true := by
 unfold backF at hb
 obtain ⟨h0, _, y, hy, ho⟩ := of_decide_eq_true hb
 obtain ⟨j, rfl⟩ : ∃ j, i = j + 1 := ⟨i - 1, by omega⟩
 rw [Nat.add_sub_cancel] at hy
 obtain ⟨hlt, he⟩ := List.getElem?_eq_some_iff.1 hy
 refine lead_back (i := j) (by omega) ?_ h
 have : (cF x)[j]'(by omega) = fl x.code[j] := by simp [cF]
 rw [this, he]
 show kindF y.op.toNat = 5
 rw [ho]
 decide
theorem begins_lead {x : Img} (T : Taken x) {i : Nat} (h : i < (cF x).length) (hb : beginsF (sF x) i = true) : leadF x i = true := by
 have F := taken_facts T
 unfold beginsF at hb
 obtain ⟨h1, h2⟩ := of_decide_eq_true hb
 have hp := F.cut.pr (ofI (sF x) i) (F.cut.lt i (by rw [← code_len]; exact h))
 have h3 := hp.2.2
 have hb2 : (prOf (sF x) (ofI (sF x) i)).b = i := h2
 rw [hb2, getD_lt h] at h3
 refine lead_enter h ?_
 rw [h3]
 decide
theorem of_lt {x : Img} (T : Taken x) : ∀ p ∈ (sF x).2, p < (sF x).1.length := by
 intro p hp
 have F := taken_facts T
 obtain ⟨i, hi, rfl⟩ := List.getElem_of_mem hp
 have := F.cut.lt i (by rw [← F.cut.len]; exact hi)
 unfold ofI at this
 rw [getD_lt hi] at this
 exact this
theorem Enters {x : Img} (T : Taken x) {C : List Cl} : pureV E (om E) 14 false [modX (procsV (sF x) (tsF x)) x, imgV x, .agg [lst eCl C, lst eW (begF (cF x).length (thL x))]] = some (bb true) := by
 have F := taken_facts T
 have hl := F.len
 have hP := procs_solid (sF x) (tsF x)
 have hlead := fun y (h : leadF x y = true) => lead_begins T h
 have hgo := fun i (h : i < (cF x).length) hk => goes_lt T h hk
 have hglead : ∀ i (h : i < (cF x).length), (kindF (cF x)[i].op = 3 ∨ kindF (cF x)[i].op = 2) → leadF x (cF x)[i].arg = true := fun i h hk => lead_goes (j := jF x) h hk (hgo i h hk)
 have hjl : ∀ i (h : i < (jF x).length), leadF x (jF x)[i] = true := fun i h => lead_jump (c := cF x) (List.getElem_mem h) (jump_lt T h)
 have hjlt := fun i (h : i < (jF x).length) => jump_lt T h
 have hBk : ∀ lent (i : Nat), i < 4294967296 → pureV E (om E) 36 lent [modX (procsV (sF x) (tsF x)) x, .int .u32 i] = some (bb (backF x.code (dF x) i)) := fun lent i h => MBack hP (nF x) (dF x) x (bitsI x) (digestP x) lent F.dlen.symm (by rw [F.dlen]; exact hl) i h
 have hBg : ∀ lent (i : Nat), i < 4294967296 → pureV E (om E) 37 lent [modX (procsV (sF x) (tsF x)) x, .int .u32 i] = some (bb (beginsF (sF x) i)) := fun lent i h => MBegins (sF x) (tsF x) (nF x) (dF x) x (bitsI x) (digestP x) lent i h (of_lt T)
 have h32 := fun i (h : i < (cF x).length) => arg_lt T _ (List.getElem_mem h)
 have hbl := fun i (h : i < (cF x).length) (hh : backF x.code (dF x) i = true ∨ beginsF (sF x) i = true) => hh.elim (back_lead T h) (begins_lead T h)
 obtain ⟨hSo, hM, hI⟩ := mod_facts T hP
 have s4 := hSo.settle
 obtain ⟨s1, s2, s3⟩ := hSo
 have hjl2 : (jF x).length ≤ 16384 := by have := F.jlen; simpa [jF] using this
 have hbgl : (begF (cF x).length (thL x)).length ≤ 16384 := by rw [begF_len, code_len]; exact hl
 have hcl := code_len x
 have hiv : imgV x = imA x := by unfold imgV imA; rw [lst_fl, ws_fl]
 rw [hiv]
 unfold imA
 clear hiv
 rw [← hcl] at hl
 generalize modX (procsV (sF x) (tsF x)) x = MX at *
 generalize backF x.code (dF x) = bk at *
 generalize beginsF (sF x) = bgn at *
 generalize begF (cF x).length (thL x) = bg at *
 have hlb := fun (y : Nat) (hy : y < 4294967296) (h : leadF x y = true) lent => (hlead y h).elim fun k hk => LBegins lent (l := C) hy hbgl hk.2 (by omega)
 clear hlead hI hM F hP T hgo
 generalize leadF x = ld at *
 generalize cF x = c at *
 generalize jF x = j at *
 clear hcl
 apply pu_14
 simp (disch := omega) [if_pos, if_neg, iteK_pos, iteK_neg, Tryz.f14, s1, s2, s3]
 refine loop_chg (dyn := []) (fun i : Nat => [(7, ii i)]) (fun _ => []) (fun _ => []) (fun i => i ≤ c.length) (fun i => c.length - i) hint_14_0 (by kernel_rfl) ?_ 0 (by simp) (by simp)
 intro i hi IH
 rw [lpB_eq]
 by_cases h : i < c.length
 ·have hinf := fun lent => Info lent c[i].op
  have hkd := kind_eq c[i].op
  have hgl := hglead i h
  rw [← hkd] at hgl
  generalize (rowOf c[i].op) = R at *
  have hB1 := fun lent => hBk lent i (by omega)
  have hB2 := fun lent => hBg lent i (by omega)
  have hli := hbl i h
  have harg : ld c[i].arg = true → ∀ lent, pureV E (om E) 35 lent [.agg [lst eCl C, lst eW bg], .int .u32 c[i].arg] = some (bb true) := fun hh => hlb _ (h32 i h) hh
  have hown : ld i = true → ∀ lent, pureV E (om E) 35 lent [.agg [lst eCl C, lst eW bg], .int .u32 i] = some (bb true) := fun hh => hlb _ (by omega) hh
  clear hlb hbl hBk hBg hglead h32
  obtain ⟨y, hyd⟩ : ∃ y, c[i] = y := ⟨_, rfl⟩
  rw [hyd] at hgl harg hinf
  cases hb1 : bk i with
  | true =>
   rw [hb1] at hB1
   have ho := hown (hli (.inl hb1))
   by_cases k3 : R.kind = 3
   ·have ha := harg (hgl (.inl k3))
    simp (disch := omega) [if_pos, if_neg, iteK_pos, iteK_neg, h, hyd, hinf, k3, ha, hB1, ho, s1, s2, s3, s4]
    exact IH (i + 1) _ _ (by omega) (by omega) (by simp)
   ·by_cases k2 : R.kind = 2
    ·have ha := harg (hgl (.inr k2))
     simp (disch := omega) [if_pos, if_neg, iteK_pos, iteK_neg, h, hyd, hinf, k2, ha, hB1, ho, s1, s2, s3, s4]
     exact IH (i + 1) _ _ (by omega) (by omega) (by simp)
    ·have j3 : ¬ (R.kind : Int) = 3 := by omega
     have j2 : ¬ (R.kind : Int) = 2 := by omega
     simp (disch := omega) [if_pos, if_neg, iteK_pos, iteK_neg, h, hyd, hinf, j3, j2, hB1, ho, s1, s2, s3, s4]
     exact IH (i + 1) _ _ (by omega) (by omega) (by simp)
  | false =>
   rw [hb1] at hB1
   cases hb2 : bgn i with
   | true =>
    rw [hb2] at hB2
    have ho := hown (hli (.inr hb2))
    by_cases k3 : R.kind = 3
    ·have ha := harg (hgl (.inl k3))
     simp (disch := omega) [if_pos, if_neg, iteK_pos, iteK_neg, h, hyd, hinf, k3, ha, hB1, hB2, ho, s1, s2, s3, s4]
     exact IH (i + 1) _ _ (by omega) (by omega) (by simp)
    ·by_cases k2 : R.kind = 2
     ·have ha := harg (hgl (.inr k2))
      simp (disch := omega) [if_pos, if_neg, iteK_pos, iteK_neg, h, hyd, hinf, k2, ha, hB1, hB2, ho, s1, s2, s3, s4]
      exact IH (i + 1) _ _ (by omega) (by omega) (by simp)
     ·have j3 : ¬ (R.kind : Int) = 3 := by omega
      have j2 : ¬ (R.kind : Int) = 2 := by omega
      simp (disch := omega) [if_pos, if_neg, iteK_pos, iteK_neg, h, hyd, hinf, j3, j2, hB1, hB2, ho, s1, s2, s3, s4]
      exact IH (i + 1) _ _ (by omega) (by omega) (by simp)
   | false =>
    rw [hb2] at hB2
    by_cases k3 : R.kind = 3
    ·have ha := harg (hgl (.inl k3))
     simp (disch := omega) [if_pos, if_neg, iteK_pos, iteK_neg, h, hyd, hinf, k3, ha, hB1, hB2, s1, s2, s3, s4]
     exact IH (i + 1) _ _ (by omega) (by omega) (by simp)
    ·by_cases k2 : R.kind = 2
     ·have ha := harg (hgl (.inr k2))
      simp (disch := omega) [if_pos, if_neg, iteK_pos, iteK_neg, h, hyd, hinf, k2, ha, hB1, hB2, s1, s2, s3, s4]
      exact IH (i + 1) _ _ (by omega) (by omega) (by simp)
     ·have j3 : ¬ (R.kind : Int) = 3 := by omega
      have j2 : ¬ (R.kind : Int) = 2 := by omega
      simp (disch := omega) [if_pos, if_neg, iteK_pos, iteK_neg, h, hyd, hinf, j3, j2, hB1, hB2, s1, s2, s3, s4]
      exact IH (i + 1) _ _ (by omega) (by omega) (by simp)
 ·obtain rfl : i = c.length := by omega
  clear IH
  simp (disch := omega) [if_pos, if_neg, iteK_pos, iteK_neg]
  refine loop_chg (dyn := []) (fun i : Nat => [(10, ii i)]) (fun _ => []) (fun _ => []) (fun i => i ≤ j.length) (fun i => j.length - i) hint_14_1 (by kernel_rfl) ?_ 0 (by simp) (by simp)
  clear hBk hBg hbl hglead
  intro i hi IH
  rw [lpB_eq]
  by_cases h : i < j.length
  ·have ha := hlb j[i] (by have := hjlt i h; omega) (hjl i h)
   simp (disch := omega) [if_pos, if_neg, iteK_pos, iteK_neg, h, eW_get, ha]
   exact IH (i + 1) _ _ (by omega) (by omega) (by simp)
  ·obtain rfl : i = j.length := by omega
   clear IH
   simp (disch := omega) [if_pos, if_neg, iteK_pos, iteK_neg]
end Go.Proofs.YtfplmcpkagpaiaaGreatDoor.Fl
end
