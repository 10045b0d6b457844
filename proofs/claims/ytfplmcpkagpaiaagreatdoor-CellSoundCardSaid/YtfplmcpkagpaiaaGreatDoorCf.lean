/-
 CellSound: the law's walk.
-/
import Derived.Test.YtfplmcpkagpaiaaGreatDoorCd
import Derived.Test.YtfplmcpkagpaiaaGreatDoorCe
import Derived.Test.YtfplmcpkagpaiaaGreatDoorVe
import Derived.Test.YtfplmcpkagpaiaaGreatDoorVf
set_option maxRecDepth 100000
set_option maxHeartbeats 0
set_option linter.unusedSimpArgs false
set_option linter.unusedVariables false
section
namespace Go.Proofs.YtfplmcpkagpaiaaGreatDoor.Fl
open Go Go.Sim Go.Sim.Cell
theorem CellSound (x : Img) (h1 : x.code.length < 2 ^ 63) (h2 : x.jumps.length < 2 ^ 63) (h3 : x.data.length < 2 ^ 63) (h4 : x.names.length < 2 ^ 63) : pureV E (om E) 4 false [imgV x] = some (bb true) := by
 have hL := Lives
 by_cases T : Taken x
 ·have F := taken_facts T
  have hlen := F.len
  rw [← code_len] at hlen
  have hP := procs_solid (sF x) (tsF x)
  have hTk := Take_ok x T
  have hTr := Translate_ok T hP
  have hLd : pureV E (om E) 12 false [modX (procsV (sF x) (tsF x)) x] = some (.tuple [lst eW (leadL x), ii 0]) := Leaders_ok T hP
  have hCk := Check_made T hP (thL_cov T)
  have hEn := Enters T (C := madeL (cF x).length (thL x))
  have hcov : Cov (cF x) (leadF x) (madeL (cF x).length (thL x)) 0 (cF x).length := cov_to _ _ (toF (begF (cF x).length (thL x))) _ (thL_cov T)
  have hll := cov_len _ hcov
  have hW := fun lent => CWhere lent (madeL (cF x).length (thL x)) (begF (cF x).length (thL x)) (by omega) (fc3_of T hcov)
  have hLb : ∀ y ∈ leadL x, ∃ k, k < 16384 ∧ (begF (cF x).length (thL x))[y]? = some k := fun y hy => lead_begins T ((leadL_mem T y).1 hy)
  obtain ⟨r, hr⟩ := leadL_cons T
  have hLl : (leadL x).length ≤ 16384 := by
   rcases rising_len (leadL x) 0 (cF x).length (numsF_rising _ _) (fun y hy => ⟨Nat.zero_le _, lead_lt ((leadL_mem T y).1 hy)⟩) with h | h
   ·rw [h]; simp
   ·omega
  have hLn : ¬ leadL x = [] := by rw [hr]; simp
  have hbl : (begF (cF x).length (thL x)).length = (cF x).length := by simp
  have h3 := fc3_of T hcov
  have hcl := code_len x
  obtain ⟨hSo, hM, hI⟩ := mod_facts T hP
  have s4 := hSo.settle
  obtain ⟨s1, s2, s3⟩ := hSo
  have hiv : imgV x = imA x := by unfold imgV imA; rw [lst_fl, ws_fl]
  rw [hiv] at hTk hEn ⊢
  unfold imA at hTk hEn ⊢
  generalize modX (procsV (sF x) (tsF x)) x = MX at *
  generalize begF (cF x).length (thL x) = bg at *
  generalize madeL (cF x).length (thL x) = C at *
  generalize leadL x = L at *
  generalize leadF x = ld at *
  clear hI hM F hP T hr hiv
  generalize cF x = c at *
  generalize jF x = j at *
  clear hcl
  apply pu_4
  simp (disch := omega) [if_pos, if_neg, iteK_pos, iteK_neg, Tryz.f4, hL, hTk, hTr, hLd, hCk, s1, s2, s3, s4, hbl, hLn]
  refine loop_chg (dyn := []) (fun i : Nat => [(12, ii i)]) (fun _ => []) (fun _ => []) (fun i => i ≤ L.length) (fun i => L.length - i) hint_4_0 (by kernel_rfl) ?_ 0 (by simp) (by simp)
  intro i hi IH
  rw [lpB_eq]
  by_cases h : i < L.length
  ·obtain ⟨k, hk, hb⟩ := hLb _ (List.getElem_mem h)
   obtain ⟨hbi, hbk⟩ := List.getElem?_eq_some_iff.1 hb
   obtain ⟨y, hyd⟩ : ∃ y, L[i] = y := ⟨_, rfl⟩
   simp only [hyd] at hbi hbk
   have hbi' : y < c.length := by omega
   have hk' : ¬ (k : Int) = 4294967295 := by omega
   clear hb hLb
   simp (disch := omega) [if_pos, if_neg, iteK_pos, iteK_neg, h, hyd, eW_get, hbk, hbi', hk', hbl]
   exact IH (i + 1) _ _ (by omega) (by omega) (by simp)
  ·obtain rfl : i = L.length := by omega
   clear IH hLb
   simp (disch := omega) [if_pos, if_neg, iteK_pos, iteK_neg]
   refine loop_chg (dyn := []) (fun s : Nat × Nat => [(13, .int .u32 s.2), (14, ii s.1)]) (fun _ => []) (fun _ => []) (fun s => s.1 ≤ C.length ∧ Cov c ld (C.drop s.1) s.2 c.length) (fun s => C.length - s.1) hint_4_1 (by kernel_rfl) ?_ (0, 0) ⟨by simp, hcov⟩ (by simp)
   rintro ⟨i, m⟩ ⟨g1, g2⟩ IH
   dsimp only at g1 g2 ⊢
   rw [lpB_eq]
   by_cases h : i < C.length
   ·rw [List.drop_eq_getElem_cons h] at g2
    have q1 := g2.1.at_
    have q2 := g2.1.pos
    have q3 := g2.1.le
    have g3 := g2.2
    have hwk := fun (k : Nat) (hk : k < C[i].len) => where_cov C 0 0 i k hcov h hk
    have hgi : C[i]? = some C[i] := List.getElem?_eq_getElem h
    have g0 : (cat eCl C)[i * 7]? = some (.int .u32 C[i].at_) := eCl_get (f := 0) (by omega) hgi
    have gl1 : (cat eCl C)[i * 7 + 1]? = some (.int .u32 C[i].len) := eCl_get (f := 1) (by omega) hgi
    have gl2 : (cat eCl C)[i * 7 + 1 + 1]? = some (.int .u8 C[i].kind) := eCl_get (f := 2) (by omega) hgi
    have gl3 : (cat eCl C)[i * 7 + 1 + 1 + 1]? = some (.int .u8 C[i].op) := eCl_get (f := 3) (by omega) hgi
    have gl4 : (cat eCl C)[i * 7 + 1 + 1 + 1 + 1]? = some (.int .u32 C[i].a) := eCl_get (f := 4) (by omega) hgi
    have gl5 : (cat eCl C)[i * 7 + 1 + 1 + 1 + 1 + 1]? = some (.int .u32 C[i].b) := eCl_get (f := 5) (by omega) hgi
    obtain ⟨y, hyd⟩ : ∃ y, C[i] = y := ⟨_, rfl⟩
    rw [hyd] at q1 q2 q3 g3 hwk g0 gl1 gl2 gl3 gl4 gl5
    clear g2 hgi
    have e1 := eq_true (show (y.at_ : Int) = m by omega)
    have e2 : ¬ (y.len : Int) = 0 := by omega
    have e3 : ¬ (c.length : Int) < y.len := by omega
    simp (disch := omega) [if_pos, if_neg, iteK_pos, iteK_neg, h, hyd, g0, gl1, gl2, gl3, gl4, gl5, V.upIf, e1, e2, e3]
    refine loop_chg (dyn := []) (fun k : Nat => [(16, .int .u32 k)]) (fun _ => []) (fun _ => []) (fun k => k ≤ y.len) (fun k => y.len - k) hint_4_2 (by kernel_rfl) ?_ 0 (by simp) (by simp)
    intro k hk IH2
    rw [lpB_eq]
    by_cases hlt : k < y.len
    ·have hw := fun lent => hW lent (y.at_ + k) (by omega)
     rw [hwk k hlt] at hw
     have e4 : ((y.at_ + k : Nat) : Int) = (y.at_ : Int) + k := by omega
     simp only [e4, Nat.zero_add] at hw
     clear IH
     simp (disch := omega) [if_pos, if_neg, iteK_pos, iteK_neg, hlt, hw]
     exact IH2 (k + 1) _ _ (by omega) (by omega) (by simp)
    ·obtain rfl : k = y.len := by omega
     clear IH2
     simp (disch := omega) [if_pos, if_neg, iteK_pos, iteK_neg, q1, s4]
     refine IH (i + 1, m + y.len) _ _ ⟨by dsimp only; omega, g3⟩ (by dsimp only; omega) ?_
     simp
   ·obtain rfl : i = C.length := by omega
    clear IH
    rw [List.drop_length] at g2
    have hm : m = c.length := g2
    subst hm
    have hw := fun lent => hW lent c.length (by omega)
    rw [where_none C 0 0 hcov] at hw
    simp (disch := omega) [if_pos, if_neg, iteK_pos, iteK_neg, hw, hEn, s1, s2, s3, s4]
 ·obtain ⟨a, e, he, hT⟩ := Take_bad x h1 h2 h3 h4 T
  have hT := hT false
  have hC := NCheck [] []
  have hC : pureV E (om E) 7 false [.nilptr, .agg [.scon [] 0 0 false, .scon [] 0 0 false]] = some (.tuple [ii 0, ii 1]) := hC
  apply pu_4
  simp (disch := omega) [if_pos, if_neg, iteK_pos, iteK_neg, Tryz.f4, hL, hT, NTranslate, NLead, hC, he]
end Go.Proofs.YtfplmcpkagpaiaaGreatDoor.Fl
end
