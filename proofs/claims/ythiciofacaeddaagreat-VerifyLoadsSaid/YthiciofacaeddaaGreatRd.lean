/-
 The document's answer for layer 15: Take.
 The document's Take.
 What is refused: by both alike.
 The document's module asked.
-/
import Derived.Test.YthiciofacaeddaaGreatRc
import Derived.Test.YthiciofacaeddaaGreatGc
import Derived.Test.YthiciofacaeddaaGreatVb
section
namespace Go.Proofs.YthiciofacaeddaaGreat
open Go Go.Sim
set_option maxRecDepth 100000
set_option maxHeartbeats 0
set_option linter.unusedSimpArgs false
set_option linter.unusedVariables false

theorem RBits15 (lent) (x : Img) (hc : checkP x = 0) : pureV E (om E) 67 lent [imgV x] = some (ii (bitsI x)) := by
 apply pu_67
 obtain ⟨c1, c2, c3, c4, c5, c6, c7⟩ := check_ok hc
 unfold bitsI
 obtain ⟨R, hRR⟩ : ∃ R, R = x.data.length + x.zero.toNat + x.stack.toNat := ⟨_, rfl⟩
 have hRi : (x.data.length : Int) + (x.zero.toNat : Int) + (x.stack.toNat : Int) = (R : Int) := by omega
 rw [← hRR] at c5 ⊢
 simp (disch := omega) [if_pos, if_neg, iteK_pos, iteK_neg, Tryz.f67, hRi]
 refine loop_chg (dyn := []) (fun k : Nat => [(4, ii k)]) (fun _ => []) (fun n => []) (fun k => 8 ≤ k ∧ k ≤ 16 ∧ bitsP R 8 = bitsP R k) (fun k => 16 - k) hint_67_0 (by kernel_rfl) ?_ 8 (by simp) (by simp)
 rintro k ⟨h8, h16, hb⟩ IH
 rw [lpB_eq]
 conv at hb => rhs; rw [bitsP]
 have hk : k = 8 ∨ k = 9 ∨ k = 10 ∨ k = 11 ∨ k = 12 ∨ k = 13 ∨ k = 14 ∨ k = 15 ∨ k = 16 := by omega
 rcases hk with rfl | rfl | rfl | rfl | rfl | rfl | rfl | rfl | rfl
 ·have e : 2 ^ 8 = 256 := rfl
  rw [if_pos (by omega), e] at hb
  by_cases h : 256 < R
  ·rw [if_pos h] at hb
   simp (disch := omega) [if_pos, if_neg, iteK_pos, iteK_neg, hRi, h]
   exact IH 9 _ _ ⟨by omega, by omega, hb⟩ (by omega) (by simp)
  ·rw [if_neg h] at hb
   simp (disch := omega) [if_pos, if_neg, iteK_pos, iteK_neg, hRi, h, hb]
 ·have e : 2 ^ 9 = 512 := rfl
  rw [if_pos (by omega), e] at hb
  by_cases h : 512 < R
  ·rw [if_pos h] at hb
   simp (disch := omega) [if_pos, if_neg, iteK_pos, iteK_neg, hRi, h]
   exact IH 10 _ _ ⟨by omega, by omega, hb⟩ (by omega) (by simp)
  ·rw [if_neg h] at hb
   simp (disch := omega) [if_pos, if_neg, iteK_pos, iteK_neg, hRi, h, hb]
 ·have e : 2 ^ 10 = 1024 := rfl
  rw [if_pos (by omega), e] at hb
  by_cases h : 1024 < R
  ·rw [if_pos h] at hb
   simp (disch := omega) [if_pos, if_neg, iteK_pos, iteK_neg, hRi, h]
   exact IH 11 _ _ ⟨by omega, by omega, hb⟩ (by omega) (by simp)
  ·rw [if_neg h] at hb
   simp (disch := omega) [if_pos, if_neg, iteK_pos, iteK_neg, hRi, h, hb]
 ·have e : 2 ^ 11 = 2048 := rfl
  rw [if_pos (by omega), e] at hb
  by_cases h : 2048 < R
  ·rw [if_pos h] at hb
   simp (disch := omega) [if_pos, if_neg, iteK_pos, iteK_neg, hRi, h]
   exact IH 12 _ _ ⟨by omega, by omega, hb⟩ (by omega) (by simp)
  ·rw [if_neg h] at hb
   simp (disch := omega) [if_pos, if_neg, iteK_pos, iteK_neg, hRi, h, hb]
 ·have e : 2 ^ 12 = 4096 := rfl
  rw [if_pos (by omega), e] at hb
  by_cases h : 4096 < R
  ·rw [if_pos h] at hb
   simp (disch := omega) [if_pos, if_neg, iteK_pos, iteK_neg, hRi, h]
   exact IH 13 _ _ ⟨by omega, by omega, hb⟩ (by omega) (by simp)
  ·rw [if_neg h] at hb
   simp (disch := omega) [if_pos, if_neg, iteK_pos, iteK_neg, hRi, h, hb]
 ·have e : 2 ^ 13 = 8192 := rfl
  rw [if_pos (by omega), e] at hb
  by_cases h : 8192 < R
  ·rw [if_pos h] at hb
   simp (disch := omega) [if_pos, if_neg, iteK_pos, iteK_neg, hRi, h]
   exact IH 14 _ _ ⟨by omega, by omega, hb⟩ (by omega) (by simp)
  ·rw [if_neg h] at hb
   simp (disch := omega) [if_pos, if_neg, iteK_pos, iteK_neg, hRi, h, hb]
 ·have e : 2 ^ 14 = 16384 := rfl
  rw [if_pos (by omega), e] at hb
  by_cases h : 16384 < R
  ·rw [if_pos h] at hb
   simp (disch := omega) [if_pos, if_neg, iteK_pos, iteK_neg, hRi, h]
   exact IH 15 _ _ ⟨by omega, by omega, hb⟩ (by omega) (by simp)
  ·rw [if_neg h] at hb
   simp (disch := omega) [if_pos, if_neg, iteK_pos, iteK_neg, hRi, h, hb]
 ·have e : 2 ^ 15 = 32768 := rfl
  rw [if_pos (by omega), e] at hb
  by_cases h : 32768 < R
  ·rw [if_pos h] at hb
   simp (disch := omega) [if_pos, if_neg, iteK_pos, iteK_neg, hRi, h]
   exact IH 16 _ _ ⟨by omega, by omega, hb⟩ (by omega) (by simp)
  ·rw [if_neg h] at hb
   simp (disch := omega) [if_pos, if_neg, iteK_pos, iteK_neg, hRi, h, hb]
 ·rw [if_neg (by omega)] at hb
  have h : ¬ 65536 < R := by omega
  simp (disch := omega) [if_pos, if_neg, iteK_pos, iteK_neg, hRi, h, hb]
theorem RCopied15 (x : Img) (h1 : x.code.length ≤ 17592186043904) (h2 : x.jumps.length ≤ 35184372087808) (h3 : x.data.length ≤ 140737488351232) (h4 : x.names.length ≤ 5864062014634) : pureV E (om E) 66 false [imgV x] = some (imgV x) := by
 apply pu_66
 simp (disch := omega) [if_pos, if_neg, iteK_pos, iteK_neg, Tryz.f66]
 refine loop_chg (dyn := []) (fun n : Nat => [(4, ii n)]) (fun n => [(0, 2, .row [.sref 0 3 0 n n (2, false), .nilslice, .nilslice, .int .u32 0, .int .u32 0, .nilslice] 0 6 false false)]) (fun n => [.row (cat eInstr (x.code.take n)) n 2 true true]) (fun n => n ≤ x.code.length) (fun n => x.code.length - n) hint_66_0 (by kernel_rfl) ?_ 0 (by simp) (by simp)
 intro n hn IH
 rw [lpB_eq]
 by_cases h : n < x.code.length
 ·simp (disch := omega) [if_pos, if_neg, iteK_pos, iteK_neg, h]
  refine IH (n + 1) _ _ (by omega) (by omega) ?_
  rw [take_snoc h, cat_append]
  simp [cat_cons, List.take_take]
 ·obtain rfl : n = x.code.length := by omega
  clear IH h hn
  simp (disch := omega) [if_pos, if_neg, iteK_pos, iteK_neg]
  refine loop_chg (dyn := []) (fun n : Nat => [(5, ii n)]) (fun n => [(0, 2, .row [.sref 0 3 0 x.code.length x.code.length (2, false), .sref 0 4 0 n n (1, false), .nilslice, .int .u32 0, .int .u32 0, .nilslice] 0 6 false false)]) (fun n => [.row (cat eU32 (x.jumps.take n)) n 1 true true]) (fun n => n ≤ x.jumps.length) (fun n => x.jumps.length - n) hint_66_1 (by kernel_rfl) ?_ 0 (by simp) (by simp)
  intro n hn IH
  rw [lpB_eq]
  by_cases h : n < x.jumps.length
  ·simp (disch := omega) [if_pos, if_neg, iteK_pos, iteK_neg, h]
   refine IH (n + 1) _ _ (by omega) (by omega) ?_
   rw [take_snoc h, cat_append]
   simp [cat_cons, List.take_take]
  ·obtain rfl : n = x.jumps.length := by omega
   clear IH h hn
   simp (disch := omega) [if_pos, if_neg, iteK_pos, iteK_neg]
   refine loop_chg (dyn := []) (fun n : Nat => [(6, ii n)]) (fun n => [(0, 2, .row [.sref 0 3 0 x.code.length x.code.length (2, false), .sref 0 4 0 x.jumps.length x.jumps.length (1, false), .sref 0 5 0 n n (1, false), .int .u32 0, .int .u32 0, .nilslice] 0 6 false false)]) (fun n => [.row (cat eU8 (x.data.take n)) n 1 true true]) (fun n => n ≤ x.data.length) (fun n => x.data.length - n) hint_66_2 (by kernel_rfl) ?_ 0 (by simp) (by simp)
   intro n hn IH
   rw [lpB_eq]
   by_cases h : n < x.data.length
   ·simp (disch := omega) [if_pos, if_neg, iteK_pos, iteK_neg, h]
    refine IH (n + 1) _ _ (by omega) (by omega) ?_
    rw [take_snoc h, cat_append]
    simp [cat_cons, List.take_take]
   ·obtain rfl : n = x.data.length := by omega
    clear IH h hn
    simp (disch := omega) [if_pos, if_neg, iteK_pos, iteK_neg]
    refine loop_chg (dyn := []) (fun n : Nat => [(7, ii n)]) (fun n => [(0, 2, .row [.sref 0 3 0 x.code.length x.code.length (2, false), .sref 0 4 0 x.jumps.length x.jumps.length (1, false), .sref 0 5 0 x.data.length x.data.length (1, false), .int .u32 0, .int .u32 0, .sref 0 6 0 n n (2, false)] 0 6 false false)]) (fun n => [.row (cat eExport (x.names.take n)) n 2 true true]) (fun n => n ≤ x.names.length) (fun n => x.names.length - n) hint_66_3 (by kernel_rfl) ?_ 0 (by simp) (by simp)
    intro n hn IH
    rw [lpB_eq]
    by_cases h : n < x.names.length
    ·simp (disch := omega) [if_pos, if_neg, iteK_pos, iteK_neg, h]
     refine IH (n + 1) _ _ (by omega) (by omega) ?_
     rw [take_snoc h, cat_append]
     simp [cat_cons, List.take_take]
    ·obtain rfl : n = x.names.length := by omega
     clear IH h hn
     simp (disch := omega) [if_pos, if_neg, iteK_pos, iteK_neg]
end Go.Proofs.YthiciofacaeddaaGreat
end
section
namespace Go.Proofs.YthiciofacaeddaaGreat
open Go Go.Sim
set_option maxRecDepth 100000
set_option maxHeartbeats 0
set_option linter.unusedSimpArgs false
set_option linter.unusedVariables false

noncomputable abbrev refC (x : Img) : List V := [lst eInstr x.code, ws x.jumps, bs x.data, w32 x.zero.toNat, w32 x.stack.toNat, lst eExport x.names, ii (bitsI x), lst ePN ((Fl.cutF (cF x)).1.zip (Fl.needF (cF x) (jF x))), lst Fl.eI (Fl.dsF (cF x) (jF x))]
noncomputable abbrev refV (x : Img) : V := .pcon (refC x) 0
theorem find13_enc {x : Img} (h : checkP x = 0) : ∀ lent, ∃ out, pureV E (om E) 123 lent [lst Fl.eInstr (cF x)] = some (.tuple [out, ii 0, ii 0]) := fun lent => by
 obtain ⟨c1, c2, c3, c4, c5, c6, c7⟩ := check_ok h
 rw [← lst_fl]
 exact ⟨_, REncode lent x.code c1 (code_all h)⟩
theorem jF_len {x : Img} (h : checkP x = 0) : (jF x).length ≤ 16384 := by
 obtain ⟨c1, c2, c3, c4, c5, c6, c7⟩ := check_ok h
 simp [jF]; omega
theorem RFind_ok {x : Img} (h : checkP x = 0) (hF : Fl.FindOk (cF x) (jF x)) {names : List Export} (hnl : names.length < 4611686018427387904) (hN : Fl.NamesAt (cF x) names) (lent) : pureV E (om E) 64 lent [lst eInstr x.code, ws x.jumps, lst eExport names] = some (.tuple [ii 0, ii 0]) := by
 have := Fl.GFind13 lent names hnl (cF x) (jF x) (fits_fl h) (enc_fl h) (find13_enc h) hF.pos hF.first (jF_len h) (cF x).length (jF x).length names.length (Nat.le_refl _) hF.faults (by omega) (Nat.le_refl _) hF.jumps (by omega) (Nat.le_refl _) hN (fun h => absurd h (by omega))
 unfold Fl.find13 at this
 rw [if_neg (by omega), if_neg (by omega), if_neg (by omega), ← lst_fl, ← ws_fl] at this
 exact this
theorem RDepths_at {x : Img} (h : checkP x = 0) (hF : Fl.FindOk (cF x) (jF x)) (m : Nat) (hm : m ≤ (Fl.cutF (cF x)).1.length) (hok : ∀ k, k < m → (Fl.walkN (cF x) (Fl.cutF (cF x)) (Fl.tgts (cF x) (jF x)) k).e = 0) (hbad : m < (Fl.cutF (cF x)).1.length → (Fl.walkN (cF x) (Fl.cutF (cF x)) (Fl.tgts (cF x) (jF x)) m).e ≠ 0) :
  pureV E (om E) 65 false [lst eInstr x.code, ws x.jumps] = some (Fl.depths14 (cF x) (jF x) m) := by
 have := Fl.GDepths14 hF (fits_fl h) (jF_len h) (fun lent => by
  have := RFind_ok h hF (names := []) (by simp) (fun i hi => absurd hi (by simp)) lent
  rw [lst_fl, show ws x.jumps = lst Fl.eW (jF x) from ws_fl x.jumps] at this
  exact this) m hm hok hbad
 rw [← lst_fl, ← ws_fl] at this
 exact this
theorem ePR_ePN (l : List Fl.PR) : cat Fl.ePR l = cat ePN (l.zip (List.replicate l.length 0)) := by
 induction l with
 | nil => rfl
 | cons p l ih => rw [List.length_cons, List.replicate_succ, List.zip_cons_cons, cat_cons, cat_cons, ih]; rfl
theorem ePN_set : ∀ (l : List (Fl.PR × Int)) (i : Nat) (v : Int) (h : i < l.length), (cat ePN l).set (i * 4 + 3) (ii v) = cat ePN (l.set i (l[i].1, v))
 | [], i, v, h => by simp at h
 | a :: l, 0, v, h => by simp [cat_cons]
 | a :: l, i + 1, v, h => by
  have ih := ePN_set l i v (by simpa using h)
  rw [cat_cons, List.set_append_right _ _ (by rw [show (ePN.enc a).length = 4 from rfl]; omega), show (i + 1) * 4 + 3 - (ePN.enc a).length = i * 4 + 3 by rw [show (ePN.enc a).length = 4 from rfl]; omega, ih]
  simp [cat_cons]
theorem zip_set {ps : List Fl.PR} {nd : List Int} (hl : nd.length = ps.length) {i : Nat} (hi : i < ps.length) : (ps.zip (nd.take i ++ List.replicate (ps.length - i) 0)).set i (ps[i], nd[i]'(by omega)) = ps.zip (nd.take (i + 1) ++ List.replicate (ps.length - (i + 1)) 0) := by
 apply List.ext_getElem
 ·simp; omega
 ·intro j h1 h2
  simp only [List.length_set, List.length_zip, List.length_append, List.length_take, List.length_replicate] at h1 h2
  rw [List.getElem_set, List.getElem_zip, List.getElem_zip]
  by_cases hij : i = j
  ·subst hij
   rw [if_pos rfl, List.getElem_append_left (by simp; omega)]
   simp
  ·rw [if_neg hij]
   congr 1
   by_cases hj : j < i
   ·rw [List.getElem_append_left (by simp; omega), List.getElem_append_left (by simp; omega)]
    simp
   ·rw [List.getElem_append_right (by simp; omega), List.getElem_append_right (by simp; omega)]
    simp
theorem RTake_ok (x : Img) (h : Taken x) : pureV E (om E) 23 false [imgV x] = some (.tuple [refV x, ii 0, ii 0]) := by
 have hchk := h.chk
 obtain ⟨c1, c2, c3, c4, c5, c6, c7⟩ := check_ok hchk
 have hC := fun lent => RCheckI lent x (by omega) (by omega) (by omega) (by omega)
 simp only [hchk] at hC
 have hF := fun lent => RFind_ok hchk h.find (names := x.names) (by omega) h.names lent
 have hD := RDepths_at hchk h.find (Fl.cutF (cF x)).1.length (Nat.le_refl _) h.all (by omega)
 unfold Fl.depths14 at hD
 rw [if_neg (by omega)] at hD
 have hP := fun (B : List Blk) (r : Heap) => Fl.GProcs13_at h.find.first h.find.enc.1 (a := lst Fl.eInstr (cF x)) (B := B) (r := r) (by simp)
 rw [← lst_fl] at hP
 have hCp := RCopied15 x (by omega) (by omega) (by omega) (by omega)
 have hB := fun lent => RBits15 lent x hchk
 have hnl : (Fl.needF (cF x) (jF x)).length = (Fl.cutF (cF x)).1.length := by simp [Fl.needF, Fl.needN]
 have hpl : (Fl.cutF (cF x)).1.length ≤ 16384 := by have := (Fl.cutN_len (cF x) (cF x).length).2; have e : (cF x).length = x.code.length := by simp [cF]
                                                    show (Fl.cutN (cF x) (cF x).length).1.length ≤ 16384; omega
 have hds : Fl.dsN (cF x) (Fl.cutF (cF x)) (Fl.tgts (cF x) (jF x)) (Fl.cutF (cF x)).1.length = Fl.dsF (cF x) (jF x) := rfl
 have hnd : Fl.needN (cF x) (Fl.cutF (cF x)) (Fl.tgts (cF x) (jF x)) (Fl.cutF (cF x)).1.length = Fl.needF (cF x) (jF x) := rfl
 rw [hds, hnd] at hD
 unfold refV refC
 rw [ePR_ePN] at hP
 generalize Fl.needF (cF x) (jF x) = nd at *
 generalize Fl.dsF (cF x) (jF x) = ds at *
 generalize (Fl.cutF (cF x)).1 = ps at *
 clear hds hnd
 apply pu_23
 simp (disch := omega) [if_pos, if_neg, iteK_pos, iteK_neg, Tryz.f23, hC, hF, hD, hCp, hB, hP]
 refine loop_chg (dyn := []) (fun n : Nat => [(13, ii n)]) (fun n => [(0, 1, .row (cat ePN (ps.zip (nd.take n ++ List.replicate (ps.length - n) 0))) ps.length 4 true true)]) (fun n => []) (fun n => n ≤ ps.length) (fun n => ps.length - n) hint_23_0 (by kernel_rfl) ?_ 0 (by omega) (by simp)
 intro n hn IH
 rw [lpB_eq]
 by_cases hlt : n < ps.length
 ·have hnn : n < nd.length := by omega
  have hzl : (ps.zip (nd.take n ++ List.replicate (ps.length - n) 0)).length = ps.length := by simp; omega
  have hzg : (ps.zip (nd.take n ++ List.replicate (ps.length - n) 0))[n]'(by omega) = (ps[n], 0) := by
   rw [List.getElem_zip, List.getElem_append_right (by simp; omega)]; simp
  have e1 : (cat ePN (ps.zip (nd.take n ++ List.replicate (ps.length - n) 0))).set (n * 4 + 3) (ii nd[n]) = cat ePN (ps.zip (nd.take (n + 1) ++ List.replicate (ps.length - (n + 1)) 0)) := by
   rw [ePN_set _ _ _ (by omega), hzg]
   exact congrArg (cat ePN) (zip_set hnl hlt)
  clear hzg
  generalize ps.zip (nd.take n ++ List.replicate (ps.length - n) 0) = Z at *
  simp (disch := omega) [if_pos, if_neg, iteK_pos, iteK_neg, hlt, hnn, hzl, Fl.eI_get, e1]
  exact IH (n + 1) _ _ (by omega) (by omega) (by simp)
 ·obtain rfl : n = ps.length := by omega
  rw [Nat.sub_self, List.replicate_zero, List.append_nil, List.take_of_length_le (by omega)]
  simp (disch := omega) [if_pos, if_neg, iteK_pos, iteK_neg]
  exact res_lst ePN (l := ps.zip nd) (by simp; omega) rfl
end Go.Proofs.YthiciofacaeddaaGreat
end
section
namespace Go.Proofs.YthiciofacaeddaaGreat
open Go Go.Sim
set_option maxRecDepth 100000
set_option maxHeartbeats 0
set_option linter.unusedSimpArgs false
set_option linter.unusedVariables false

theorem FindFirst_no {code : List Fl.Instr} {jumps : List Nat} (hf : Fl.CodeFits code jumps) (he : Fl.encodes code) (h : ¬ (0 < code.length ∧ (code.getD 0 default).op = 3)) (nm : List Export) : Fl.FindNo code jumps nm 0 130 := by
 have hE := fun lent => Fl.Encode_ok lent code he.1 hf.ins he.2
 refine @Fl.findNo code jumps nm 0 130 [] ?_
 apply bo_58
 by_cases hc : 0 < code.length
 ·have hne : code ≠ [] := by rintro rfl; simp at hc
  have hop : ¬ code[0].op = 3 := by
   intro hop
   exact h ⟨hc, by simpa [List.getD, hc] using hop⟩
  simp (disch := omega) [if_pos, if_neg, iteK_pos, iteK_neg, Tryz.f58, hE, hc, hne, hop]
 ·obtain rfl : code = [] := by cases code with | nil => rfl | cons x l => simp at hc
  rw [lst_nil] at hE
  simp (disch := omega) [if_pos, if_neg, iteK_pos, iteK_neg, Tryz.f58, hE]
def RTakeNo (x : Img) (a e : Int) : Prop := pureV E (om E) 23 false [imgV x] = some (.tuple [.nilptr, ii a, ii e])
theorem RTake_check (x : Img) (h1 : x.code.length < 2 ^ 62) (h2 : x.jumps.length < 2 ^ 62) (h3 : x.data.length < 2 ^ 62) (h4 : x.names.length < 2 ^ 62) (hc : checkP x ≠ 0) : RTakeNo x 0 (checkP x) := by
 have hC := fun lent => RCheckI lent x h1 h2 h3 h4
 apply pu_23
 simp (disch := omega) [if_pos, if_neg, iteK_pos, iteK_neg, Tryz.f23, hC, hc]
theorem RTake_find (x : Img) (hchk : checkP x = 0) {a e : Nat} (he : e ≠ 0) (hF : ∀ lent, pureV E (om E) 64 lent [lst eInstr x.code, ws x.jumps, lst eExport x.names] = some (.tuple [ii a, ii e])) : RTakeNo x a e := by
 obtain ⟨c1, c2, c3, c4, c5, c6, c7⟩ := check_ok hchk
 have hC := fun lent => RCheckI lent x (by omega) (by omega) (by omega) (by omega)
 simp only [hchk] at hC
 apply pu_23
 simp (disch := omega) [if_pos, if_neg, iteK_pos, iteK_neg, Tryz.f23, hC, hF, he]
theorem RTake_flow (x : Img) (hchk : checkP x = 0) (hfi : Fl.FindOk (cF x) (jF x)) (hna : Fl.NamesAt (cF x) x.names) (m : Nat) (hm : m < (Fl.cutF (cF x)).1.length)
  (hok : ∀ k, k < m → (Fl.walkN (cF x) (Fl.cutF (cF x)) (Fl.tgts (cF x) (jF x)) k).e = 0) (hbad : (Fl.walkN (cF x) (Fl.cutF (cF x)) (Fl.tgts (cF x) (jF x)) m).e ≠ 0) : RTakeNo x (Fl.walkN (cF x) (Fl.cutF (cF x)) (Fl.tgts (cF x) (jF x)) m).at_ (Fl.walkN (cF x) (Fl.cutF (cF x)) (Fl.tgts (cF x) (jF x)) m).e := by
 obtain ⟨c1, c2, c3, c4, c5, c6, c7⟩ := check_ok hchk
 have hC := fun lent => RCheckI lent x (by omega) (by omega) (by omega) (by omega)
 simp only [hchk] at hC
 have hF := fun lent => RFind_ok hchk hfi (names := x.names) (by omega) hna lent
 have hD := RDepths_at hchk hfi m (by omega) hok (fun _ => hbad)
 unfold Fl.depths14 at hD
 rw [if_pos hm] at hD
 generalize Fl.walkN (cF x) (Fl.cutF (cF x)) (Fl.tgts (cF x) (jF x)) m = W at *
 rw [lst_nil] at hD
 apply pu_23
 simp (disch := omega) [if_pos, if_neg, iteK_pos, iteK_neg, Tryz.f23, hC, hF, hD, hbad]
theorem both_no (x : Img) (h1 : x.code.length < 2 ^ 62) (h2 : x.jumps.length < 2 ^ 62) (h3 : x.data.length < 2 ^ 62) (h4 : x.names.length < 2 ^ 62) (h : ¬ Taken x) : ∃ a e : Int, e ≠ 0 ∧ TakeNo x a e ∧ RTakeNo x a e := by
 by_cases hc : checkP x = 0
 ·obtain ⟨c1, c2, c3, c4, c5, c6, c7⟩ := check_ok hc
  have hfit := fits_fl hc
  have henc := enc_fl hc
  by_cases hF : Fl.FindOk (cF x) (jF x) ∧ Fl.NamesAt (cF x) x.names
  ·obtain ⟨m, m1, m2, m3⟩ := Fl.first_bad (fun i => (Fl.walkN (cF x) (Fl.cutF (cF x)) (Fl.tgts (cF x) (jF x)) i).e ≠ 0) (Fl.cutF (cF x)).1.length
   have hm : m < (Fl.cutF (cF x)).1.length := by
    rcases Nat.lt_or_ge m (Fl.cutF (cF x)).1.length with h' | h'
    ·exact h'
    ·exact absurd ⟨hc, hF.1, hF.2, fun i hi => Classical.byContradiction (m2 i (by omega))⟩ h
   exact ⟨_, _, fun h => m3 hm (by exact_mod_cast h), Take_flow x hc hF.1 hF.2 m hm (fun k hk => Classical.byContradiction (m2 k hk)) (m3 hm) rfl rfl, RTake_flow x hc hF.1 hF.2 m hm (fun k hk => Classical.byContradiction (m2 k hk)) (m3 hm)⟩
  ·by_cases hfst : 0 < (cF x).length ∧ ((cF x).getD 0 default).op = 3
   ·obtain ⟨k, k1, k2, k3⟩ := Fl.first_bad (fun i => Fl.faultAt (Fl.cutF (cF x)) (cF x) i ≠ 0) (cF x).length
    obtain ⟨m, m1, m2, m3⟩ := Fl.first_bad (fun i => Fl.badJ (Fl.cutF (cF x)) (jF x) i) (jF x).length
    obtain ⟨q, q1, q2, q3⟩ := Fl.first_bad (fun i => ∃ h : i < x.names.length, Fl.beginsF (Fl.cutF (cF x)) x.names[i].place.toNat = false) x.names.length
    have q4 : ∀ i, (h : i < q) → Fl.beginsF (Fl.cutF (cF x)) (x.names[i]'(by omega)).place.toNat = true := fun i hi => by
     have := q2 i hi
     cases hb : Fl.beginsF (Fl.cutF (cF x)) (x.names[i]'(by omega)).place.toNat with
     | true => rfl
     | false => exact absurd ⟨by omega, hb⟩ this
    have hw := Fl.FindN_body x.names (by omega) (cF x) (jF x) hfit.ins hfit.len hfit.words henc hfst.1 hfst.2 k m q k1 (fun i hi => Classical.byContradiction (k2 i hi)) k3 m1 m2 m3 q1 q4 (fun h => (q3 h).2)
    have hr := fun lent => Fl.GFind13 lent x.names (by omega) (cF x) (jF x) hfit henc (find13_enc hc) hfst.1 hfst.2 (jF_len hc) k m q k1 (fun i hi => Classical.byContradiction (k2 i hi)) k3 m1 m2 m3 q1 q4 (fun h => (q3 h).2)
    rw [← lst_fl, ← ws_fl] at hr
    unfold Fl.findRN at hw
    unfold Fl.find13 at hr
    by_cases hk : k < (cF x).length
    ·rw [if_pos hk] at hw
     simp only [if_pos hk] at hr
     exact ⟨_, _, fun h => k3 hk (by exact_mod_cast h), Take_find x hc (k3 hk) (@Fl.findNo _ _ _ _ _ _ hw), RTake_find x hc (k3 hk) hr⟩
    ·rw [if_neg hk] at hw
     simp only [if_neg hk] at hr
     by_cases hm : m < (jF x).length
     ·rw [if_pos hm] at hw
      simp only [if_pos hm] at hr
      exact ⟨m, 134, by omega, Take_find x hc (e := 134) (by omega) (@Fl.findNo _ _ _ _ _ _ hw), RTake_find x hc (e := 134) (by omega) hr⟩
     ·rw [if_neg hm] at hw
      simp only [if_neg hm] at hr
      by_cases hq : q < x.names.length
      ·rw [if_pos hq] at hw
       simp only [if_pos hq] at hr
       exact ⟨q, 135, by omega, Take_find x hc (e := 135) (by omega) (@Fl.findNo _ _ _ _ _ _ hw), RTake_find x hc (e := 135) (by omega) hr⟩
      ·refine absurd ⟨⟨henc, hfst.1, hfst.2, fun i hi => Classical.byContradiction (k2 i (by omega)), fun i hi => m2 i (by omega)⟩, fun i hi => q4 i (by omega)⟩ hF
   ·have hl : (cF x).length ≤ 16384 := by simp [cF]; omega
    have hr := fun lent => Fl.GFindFirst13 lent x.names (cF x) (jF x) hl (find13_enc hc) hfst
    rw [← lst_fl, ← ws_fl] at hr
    exact ⟨0, 130, by omega, Take_find x hc (a := 0) (e := 130) (by omega) (FindFirst_no hfit henc hfst x.names), RTake_find x hc (a := 0) (e := 130) (by omega) hr⟩
 ·exact ⟨0, checkP x, by omega, Take_check x (by omega) (by omega) (by omega) (by omega) hc, RTake_check x h1 h2 h3 h4 hc⟩
end Go.Proofs.YthiciofacaeddaaGreat
end
section
namespace Go.Proofs.YthiciofacaeddaaGreat
open Go Go.Sim
set_option maxRecDepth 100000
set_option maxHeartbeats 0
set_option linter.unusedSimpArgs false
set_option linter.unusedVariables false

abbrev refM (pl : List (Fl.PR × Int)) (ds : List Int) (x : Img) (k : Nat) : V := .pcon [lst eInstr x.code, ws x.jumps, bs x.data, w32 x.zero.toNat, w32 x.stack.toNat, lst eExport x.names, ii k, lst ePN pl, lst Fl.eI ds] 0
theorem eq_pconR (x y : Operand) (c : List V) (o : Nat) : binO E .eql 30 x y (.pcon c o) .nilptr = some (.bool false) := by
 show binV E .eql 30 (.pcon c o) .nilptr = some (.bool false)
 have h : E.P.underlying 30 = some (.pointer 76) := by kernel_rfl
 unfold binV
 simp [eqV, h]
theorem eq_nilR (x y : Operand) : binO E .eql 30 x y .nilptr .nilptr = some (.bool true) := by
 show binV E .eql 30 .nilptr .nilptr = some (.bool true)
 have h : E.P.underlying 30 = some (.pointer 76) := by kernel_rfl
 unfold binV
 simp [eqV, h]
theorem ePN_get {l : List (Fl.PR × Int)} {k j : Nat} (hj : j < 4) (hk : k < l.length) : (cat ePN l)[k * 4 + j]? = ([V.int .u32 l[k].1.b, .int .u32 l[k].1.e, .int .u32 l[k].1.f, ii l[k].2] : List V)[j]? := by
 have := cat_get ePN l k j hj
 rw [ePN_k] at this
 rw [this, List.getElem?_eq_getElem hk]
 rfl
section
variable (pl : List (Fl.PR × Int)) (ds : List Int) (x : Img) (K : Nat)
theorem RMAt (lent) (hl : x.code.length ≤ 16384) (i : Nat) (hi' : i < 4294967296) (hi : i < x.code.length) : pureV E (om E) 37 lent [refM pl ds x K, .int .u32 i] = some (.tuple [insV x.code[i], bb true]) := by
 apply pu_37
 simp (disch := omega) [if_pos, if_neg, iteK_pos, iteK_neg, Tryz.f37, eq_pconR, hi]
theorem RMAt_no (lent) (hl : x.code.length ≤ 16384) (i : Nat) (hi' : i < 4294967296) (hi : ¬ i < x.code.length) : pureV E (om E) 37 lent [refM pl ds x K, .int .u32 i] = some (.tuple [insV ⟨0, 0⟩, bb false]) := by
 apply pu_37
 simp (disch := omega) [if_pos, if_neg, iteK_pos, iteK_neg, Tryz.f37, eq_pconR, hi]
theorem RMProcOf (lent) (hl : pl.length ≤ 16384) (i : Nat) (hi' : i < 4294967296) (k : Nat) (hk : k < pl.length) (hin : pl[k].1.b ≤ i ∧ i < pl[k].1.e) (hno : ∀ n, (h : n < k) → ¬ ((pl[n]'(by omega)).1.b ≤ i ∧ i < (pl[n]'(by omega)).1.e)) :
  pureV E (om E) 39 lent [refM pl ds x K, .int .u32 i] = some (.tuple [pnV pl[k].1 pl[k].2, bb true]) := by
 apply pu_39
 simp (disch := omega) [if_pos, if_neg, iteK_pos, iteK_neg, Tryz.f39, eq_pconR]
 refine loop_chg (dyn := []) (fun n : Nat => [(6, ii n)]) (fun _ => []) (fun n => []) (fun n => n ≤ k) (fun n => k - n) hint_39_0 (by kernel_rfl) ?_ 0 (by omega) (by simp)
 intro n hn IH
 rw [lpB_eq]
 by_cases hnk : n < k
 ·have hnl : n < pl.length := by omega
  have h := hno n hnk
  have g0 := ePN_get (l := pl) (k := n) (j := 0) (by omega) hnl
  have g1 := ePN_get (l := pl) (k := n) (j := 1) (by omega) hnl
  by_cases h1 : pl[n].1.b ≤ i
  ·have h2 : ¬ i < pl[n].1.e := fun h2 => h ⟨h1, h2⟩
   simp (disch := omega) [if_pos, if_neg, iteK_pos, iteK_neg, hnl, g0, g1, h1, h2]
   exact IH (n + 1) _ _ (by omega) (by omega) (by simp)
  ·simp (disch := omega) [if_pos, if_neg, iteK_pos, iteK_neg, hnl, g0, g1, h1]
   exact IH (n + 1) _ _ (by omega) (by omega) (by simp)
 ·obtain rfl : n = k := by omega
  obtain ⟨h1, h2⟩ := hin
  have g0 := ePN_get (l := pl) (k := n) (j := 0) (by omega) hk
  have g1 := ePN_get (l := pl) (k := n) (j := 1) (by omega) hk
  simp (disch := omega) [if_pos, if_neg, iteK_pos, iteK_neg, hk, g0, g1, h1, h2]
theorem RMProcOf_no (lent) (hl : pl.length ≤ 16384) (i : Nat) (hi' : i < 4294967296) (hno : ∀ n, (h : n < pl.length) → ¬ (pl[n].1.b ≤ i ∧ i < pl[n].1.e)) :
  pureV E (om E) 39 lent [refM pl ds x K, .int .u32 i] = some (.tuple [pnV ⟨0, 0, 0⟩ 0, bb false]) := by
 apply pu_39
 simp (disch := omega) [if_pos, if_neg, iteK_pos, iteK_neg, Tryz.f39, eq_pconR]
 refine loop_chg (dyn := []) (fun n : Nat => [(6, ii n)]) (fun _ => []) (fun n => []) (fun n => n ≤ pl.length) (fun n => pl.length - n) hint_39_0 (by kernel_rfl) ?_ 0 (by omega) (by simp)
 intro n hn IH
 rw [lpB_eq]
 by_cases hnl : n < pl.length
 ·have h := hno n hnl
  have g0 := ePN_get (l := pl) (k := n) (j := 0) (by omega) hnl
  have g1 := ePN_get (l := pl) (k := n) (j := 1) (by omega) hnl
  by_cases h1 : pl[n].1.b ≤ i
  ·have h2 : ¬ i < pl[n].1.e := fun h2 => h ⟨h1, h2⟩
   simp (disch := omega) [if_pos, if_neg, iteK_pos, iteK_neg, hnl, g0, g1, h1, h2]
   exact IH (n + 1) _ _ (by omega) (by omega) (by simp)
  ·simp (disch := omega) [if_pos, if_neg, iteK_pos, iteK_neg, hnl, g0, g1, h1]
   exact IH (n + 1) _ _ (by omega) (by omega) (by simp)
 ·obtain rfl : n = pl.length := by omega
  simp (disch := omega) [if_pos, if_neg, iteK_pos, iteK_neg]
theorem RMDepth (lent) (hl : ds.length ≤ 16384) (i : Nat) (hi : i < 4294967296) : pureV E (om E) 42 lent [refM pl ds x K, .int .u32 i] = some (ii (depF ds i)) := by
 apply pu_42
 unfold depF
 by_cases h : i < ds.length
 ·rw [Fl.getD_lt h]
  simp (disch := omega) [if_pos, if_neg, iteK_pos, iteK_neg, Tryz.f42, eq_pconR, h, Fl.eI_get]
 ·rw [Fl.getD_ge (by omega)]
  simp (disch := omega) [if_pos, if_neg, iteK_pos, iteK_neg, Tryz.f42, eq_pconR, h]
theorem RMBack (lent) (hc : x.code.length = ds.length) (hl : ds.length ≤ 16384) (i : Nat) (hi : i < 4294967296) : pureV E (om E) 46 lent [refM pl ds x K, .int .u32 i] = some (bb (backF x.code ds i)) := by
 apply pu_46
 unfold backF
 by_cases h0 : i = 0
 ·subst h0
  simp (disch := omega) [if_pos, if_neg, iteK_pos, iteK_neg, Tryz.f46]
 ·obtain ⟨j, rfl⟩ : ∃ j, i = j + 1 := ⟨i - 1, by omega⟩
  have hD := fun lent => RMDepth pl ds x K lent hl j (by omega)
  rw [Nat.add_sub_cancel]
  by_cases hd : 0 ≤ depF ds j
  ·have hj : j < ds.length := by
    rcases Nat.lt_or_ge j ds.length with h | h
    ·exact h
    ·unfold depF at hd; rw [Fl.getD_ge h] at hd; omega
   have hj2 : j < x.code.length := by omega
   have hlt : (depF ds j < 0) = False := eq_false (by omega)
   by_cases hop : x.code[j].op.toNat = 5
   ·simp (disch := omega) [if_pos, if_neg, iteK_pos, iteK_neg, Tryz.f46, hD, hd, hj2, hop, hlt]
   ·have hop' : ¬ (x.code[j].op.toNat : Int) = 5 := by omega
    simp (disch := omega) [if_pos, if_neg, iteK_pos, iteK_neg, Tryz.f46, hD, hd, hj2, hop, hop', hlt]
  ·have hlt : (depF ds j < 0) = True := eq_true (by omega)
   simp (disch := omega) [if_pos, if_neg, iteK_pos, iteK_neg, Tryz.f46, hD, hd, hlt]
theorem RMDigest (hc : checkP x = 0) (lent) : pureV E (om E) 35 lent [refM pl ds x K] = some (w64 (digestP x)) := by
 apply pu_35
 have hE := REncodeI x hc
 have hs := enc_small hc
 have hlt := (adler (encP x)).toNat_lt
 have hS := fun lent => RSum lent (encP x) (by omega)
 have hd := digest_eq x hc
 simp (disch := omega) [if_pos, if_neg, iteK_pos, iteK_neg, Tryz.f35, eq_pconR, hE, hS]
 unfold digestP
 omega
theorem RMBegins_of {p : Fl.PR} {nd : Int} {there : Bool} (lent) (i : Nat) (hp : ∀ lent, pureV E (om E) 39 lent [refM pl ds x K, .int .u32 i] = some (.tuple [pnV p nd, bb there])) : pureV E (om E) 41 lent [refM pl ds x K, .int .u32 i] = some (bb (there && decide (p.b = i))) := by
 apply pu_41
 cases there
 ·simp (disch := omega) [if_pos, if_neg, iteK_pos, iteK_neg, Tryz.f41, hp]
 ·simp (disch := omega) [if_pos, if_neg, iteK_pos, iteK_neg, Tryz.f41, hp]
  try omega
theorem RMLegal_no (lent) (i t : Nat) {p : Fl.PR} {nd : Int} (hp : ∀ lent, pureV E (om E) 39 lent [refM pl ds x K, .int .u32 i] = some (.tuple [pnV p nd, bb false])) : pureV E (om E) 44 lent [refM pl ds x K, .int .u32 i, .int .u32 t] = some (bb false) := by
 apply pu_44
 simp (disch := omega) [if_pos, if_neg, iteK_pos, iteK_neg, Tryz.f44, hp]
theorem RMLegal (lent) (hj : x.jumps.length ≤ 16384) (i t : Nat) (ht : t < 4294967296) {p : Fl.PR} {nd : Int} (hp : ∀ lent, pureV E (om E) 39 lent [refM pl ds x K, .int .u32 i] = some (.tuple [pnV p nd, bb true])) : pureV E (om E) 44 lent [refM pl ds x K, .int .u32 i, .int .u32 t] = some (bb (decide (p.b ≤ t ∧ t < p.e ∧ t ∈ jF x))) := by
 apply pu_44
 by_cases h1 : t < p.b
 ·have hd : decide (p.b ≤ t ∧ t < p.e ∧ t ∈ jF x) = false := decide_eq_false (by omega)
  rw [hd]
  simp (disch := omega) [if_pos, if_neg, iteK_pos, iteK_neg, Tryz.f44, hp, h1]
 by_cases h2 : p.e ≤ t
 ·have hd : decide (p.b ≤ t ∧ t < p.e ∧ t ∈ jF x) = false := decide_eq_false (by omega)
  rw [hd]
  simp (disch := omega) [if_pos, if_neg, iteK_pos, iteK_neg, Tryz.f44, hp, h1, h2]
 have hd : decide (p.b ≤ t ∧ t < p.e ∧ t ∈ jF x) = decide (t ∈ jF x) := by
  congr 1; exact propext ⟨fun h => h.2.2, fun h => ⟨by omega, by omega, h⟩⟩
 rw [hd]
 have hjf : ∀ n, (h : n < x.jumps.length) → (x.jumps[n].toNat = t → decide (t ∈ jF x) = true) := fun n h e => decide_eq_true (List.mem_map.2 ⟨_, List.getElem_mem h, e⟩)
 have hjn : (∀ j, (h' : j < x.jumps.length) → x.jumps[j].toNat ≠ t) → decide (t ∈ jF x) = false := fun hno => decide_eq_false fun hm => by
  obtain ⟨y, hy, e⟩ := List.mem_map.1 hm
  obtain ⟨j, hj', rfl⟩ := List.getElem_of_mem hy
  exact hno j hj' e
 generalize decide (t ∈ jF x) = q at *
 simp (disch := omega) [if_pos, if_neg, iteK_pos, iteK_neg, Tryz.f44, hp, h1, h2, eq_pconR]
 refine loop_chg (dyn := []) (fun n : Nat => [(9, ii n)]) (fun _ => []) (fun n => []) (fun n => n ≤ x.jumps.length ∧ ∀ j, (h : j < n) → (h' : j < x.jumps.length) → x.jumps[j].toNat ≠ t) (fun n => x.jumps.length - n) hint_44_0 (by kernel_rfl) ?_ 0 ⟨by omega, by omega⟩ (by simp)
 rintro n ⟨hn, hno⟩ IH
 rw [lpB_eq]
 by_cases hnl : n < x.jumps.length
 ·by_cases he : x.jumps[n].toNat = t
  ·have hm := hjf n hnl he
   clear hno hjf hjn
   simp (disch := omega) [if_pos, if_neg, iteK_pos, iteK_neg, hnl, he, hm]
  ·simp (disch := omega) [if_pos, if_neg, iteK_pos, iteK_neg, hnl, he]
   refine IH (n + 1) _ _ ⟨by omega, fun j h h' => ?_⟩ (by omega) (by simp)
   by_cases hjn : j = n
   ·subst hjn; exact he
   ·exact hno j (by omega) h'
 ·have hm := hjn fun j h' => hno j (by omega) h'
  clear hno hjf hjn
  simp (disch := omega) [if_pos, if_neg, iteK_pos, iteK_neg, hnl, hm]
def entryF (l : List Export) (name : List UInt8) : Nat × Bool := match l.find? (fun e => e.name == name) with | some e => (e.place.toNat, true) | none => (0, false)
theorem entry_step {l : List Export} {name : List UInt8} {n : Nat} (hn : n < l.length) (hno : ∀ j, (h : j < n) → (h' : j < l.length) → l[j].name ≠ name) (he : l[n].name = name) : entryF l name = (l[n].place.toNat, true) := by
 have : l.find? (fun e => e.name == name) = some l[n] := by
  rw [List.find?_eq_some_iff_getElem]
  refine ⟨by simp [he], n, hn, rfl, fun j hj => ?_⟩
  have := hno j hj (by omega)
  simpa using this
 unfold entryF; rw [this]
theorem entry_none {l : List Export} {name : List UInt8} (hno : ∀ j, (h' : j < l.length) → l[j].name ≠ name) : entryF l name = (0, false) := by
 have : l.find? (fun e => e.name == name) = none := by
  rw [List.find?_eq_none]
  intro e he
  obtain ⟨j, hj, rfl⟩ := List.getElem_of_mem he
  have := hno j hj
  simpa using this
 unfold entryF; rw [this]
end
section
variable {PV : V} (hP : Solid PV) (nd ds : List Int) (x : Img) (b dg : Nat)
include hP
theorem MEntry (hl : x.names.length ≤ 64) (name : List UInt8) : pureV E (om E) 11 false [modM PV nd ds x b dg, .str name] = some (.tuple [.int .u32 (entryF x.names name).1, bb (entryF x.names name).2]) := by
 have hA := MAll hP nd ds x b dg
 apply pu_11
 have hs : ∀ k H, V.settle k H PV = PV := hP.settle
 obtain ⟨h1, h2, h3⟩ := hP
 simp (disch := omega) [if_pos, if_neg, iteK_pos, iteK_neg, Tryz.f11, h1, h2, h3, hA]
 refine loop_chg (dyn := []) (fun n : Nat => [(15, ii n)]) (fun _ => []) (fun n => []) (fun n => n ≤ x.names.length ∧ ∀ j, (h : j < n) → (h' : j < x.names.length) → x.names[j].name ≠ name) (fun n => x.names.length - n) hint_11_0 (by kernel_rfl) ?_ 0 ⟨by omega, by omega⟩ (by simp)
 rintro n ⟨hn, hno⟩ IH
 rw [lpB_eq]
 by_cases hnl : n < x.names.length
 ·by_cases he : x.names[n].name = name
  ·rw [entry_step hnl hno he]
   clear hno
   simp (disch := omega) [if_pos, if_neg, iteK_pos, iteK_neg, hnl, he, h1, h2, h3, hs]
  ·simp (disch := omega) [if_pos, if_neg, iteK_pos, iteK_neg, hnl, he, h1, h2, h3, hs]
   refine IH (n + 1) _ _ ⟨by omega, fun j h h' => ?_⟩ (by omega) (by simp)
   by_cases hjn : j = n
   ·subst hjn; exact he
   ·exact hno j (by omega) h'
 ·rw [entry_none fun j h' => hno j (by omega) h']
  clear hno
  simp (disch := omega) [if_pos, if_neg, iteK_pos, iteK_neg, hnl]
end
end Go.Proofs.YthiciofacaeddaaGreat
end
