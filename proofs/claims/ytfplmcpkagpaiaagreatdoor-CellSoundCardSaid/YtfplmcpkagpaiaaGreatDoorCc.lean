/-
 cell.Check.
 cell.Translate answers; what it answers is taken by Check.
 lives.
-/
import Derived.Test.YtfplmcpkagpaiaaGreatDoorCb
import Derived.Test.YtfplmcpkagpaiaaGreatDoorVd
set_option maxRecDepth 100000
set_option maxHeartbeats 0
set_option linter.unusedSimpArgs false
set_option linter.unusedVariables false
section
namespace Go.Proofs.YtfplmcpkagpaiaaGreatDoor.Fl
open Go Go.Sim Go.Sim.Cell
theorem FitsBad (lent) (c : List Instr) (a e k : Nat) (ha : a < 4294967296) (he : e < 4294967296) (hl : c.length < 2 ^ 63) (h : ¬ (1 ≤ k ∧ k ≤ 15 ∧ a < e ∧ e ≤ c.length)) : pureV E (om E) 25 lent [lst eInstr c, .int .u32 a, .int .u32 e, .int .u8 k] = some (.tuple [fusedV 0 0 Shp.none, bb false]) := by
 have hL := fun lent => lies lent c a e ha he hl
 apply pu_25
 by_cases h1 : k < 1
 ·simp (disch := omega) [if_pos, if_neg, iteK_pos, iteK_neg, Tryz.f25, h1, Shp.none]
 ·by_cases h2 : 15 < k
  ·simp (disch := omega) [if_pos, if_neg, iteK_pos, iteK_neg, Tryz.f25, h1, h2, Shp.none]
  ·rw [decide_eq_false (by omega)] at hL
   simp (disch := omega) [if_pos, if_neg, iteK_pos, iteK_neg, Tryz.f25, h1, h2, hL, Shp.none]
theorem FitsChk {c : List Instr} {x : Cl} (L : Lies c x.at_ (x.at_ + x.len)) (hx : FC3 x) :
  ((∀ lent, pureV E (om E) 25 lent [lst eInstr c, .int .u32 x.at_, .int .u32 (x.at_ + x.len : Nat), .int .u8 x.kind] = some (.tuple [fusedV 0 0 Shp.none, bb false])) ∧ fitB c x = false) ∨
  ∃ s : Shp, (∀ lent, pureV E (om E) 25 lent [lst eInstr c, .int .u32 x.at_, .int .u32 (x.at_ + x.len : Nat), .int .u8 x.kind] = some (.tuple [fusedV x.at_ x.kind s, bb true])) ∧ fitB c x = decide (s.len = x.len ∧ s.op = x.op ∧ s.a = x.a ∧ s.b = x.b) := by
 have hlen : 0 < x.len := by have := L.lt; omega
 by_cases hk : 1 ≤ x.kind ∧ x.kind ≤ 15
 ·have hF := fun lent => Fits lent L x.kind hk.1 hk.2
  by_cases h0 : (fitsF (win c x.at_ (x.at_ + x.len)) x.kind).len = 0
  ·left
   rw [if_pos h0] at hF
   refine ⟨hF, ?_⟩
   unfold fitB
   refine decide_eq_false fun h => ?_
   rw [h.2.2] at h0
   dsimp only at h0
   omega
  ·right
   rw [if_neg h0] at hF
   refine ⟨_, hF, ?_⟩
   unfold fitB
   refine decide_eq_decide.2 ⟨fun h => ?_, fun h => ⟨hk.1, hk.2, ?_⟩⟩
   ·rw [h.2.2]; exact ⟨rfl, rfl, rfl, rfl⟩
   ·generalize fitsF (win c x.at_ (x.at_ + x.len)) x.kind = s at *
    obtain ⟨s1, s2, s3, s4⟩ := s
    obtain ⟨h1, h2, h3, h4⟩ := h
    dsimp only at h1 h2 h3 h4
    subst h1 h2 h3 h4
    rfl
 ·left
  refine ⟨fun lent => FitsBad lent c _ _ _ hx.at_ L.small L.short (fun h => hk ⟨h.1, h.2.1⟩), ?_⟩
  unfold fitB
  exact decide_eq_false fun h => hk ⟨h.1, h.2.1⟩
theorem Leaders_on {x : Img} (T : Taken x) {PV : V} (hP : Solid PV) (B : List Blk) : callV E (om E) 22 [modX PV x] [B] =
  some (.tuple [.pref 0 (B.length + 1) 0 0, ii 0], [B ++ [wR (setW (leadF x) (mW x)), .row [ii (x.code.length + 1 : Nat), .sref 0 B.length 0 (mW x) 0 (1, true)] 0 2 false false, imB x]]) := by
 have hb := Leaders_body T hP
 obtain ⟨⟨s1, s2, s3⟩, hM, hI⟩ := mod_facts T hP
 unfold imB at hb ⊢
 generalize modX PV x = MX at *
 rw [call_22]
 simp (disch := omega) [if_pos, if_neg, iteK_pos, iteK_neg, s1, s2, s3, hb]
theorem CCheck {x : Img} (T : Taken x) {PV : V} (hP : Solid PV) (l : List Cl) (bg : List Nat) (hl : l.length < 17592186044416) (hbg : bg.length < 70368744177664) (hx : ∀ y ∈ l, FC3 y) (htg : ∀ y ∈ l, ∀ t, tgtF y = some t → t < 4294967296) :
  pureV E (om E) 7 false [modX PV x, .agg [lst eCl l, lst eW bg]] = some (.tuple [ii (checkC (cF x) (leadF x) l bg).1, ii (checkC (cF x) (leadF x) l bg).2]) := by
 have F := taken_facts T
 have hlen := F.len
 have hLd := Leaders_on T hP
 have hmm : mW x = (x.code.length + 1 + 63) / 64 := rfl
 have hH := fun lent (i : Nat) (hi : i < 4294967296) => Has lent (leadF x) (x.code.length + 1) (mW x) i (by omega) (by omega) hi
 obtain ⟨hSo, hM, hI⟩ := mod_facts T hP
 have hlc : x.code.length = (cF x).length := by simp [cF]
 rw [hlc] at hlen hLd hH
 unfold imA at hI
 unfold imB at hLd
 have s4 := hSo.settle
 obtain ⟨s1, s2, s3⟩ := hSo
 have hmp := fun (whole : Bool) hw lent => CMaps lent l bg (cF x).length whole hlen hl hbg hw htg
 generalize modX PV x = MX at *
 generalize mW x = m at *
 generalize leadF x = ld at *
 clear hlc F T hM hmm
 generalize cF x = c at *
 generalize jF x = j at *
 unfold checkC
 generalize hG : covGo c ld l 0 0 = G
 obtain ⟨n1, hn1⟩ : ∃ n1, n1 = c.length + 1 := ⟨_, rfl⟩
 rw [← hn1] at hLd hH
 apply pu_7
 simp (disch := omega) [if_pos, if_neg, iteK_pos, iteK_neg, Tryz.f7, s1, s2, s3, hLd, hI]
 refine loop_chg (dyn := []) (fun s : Nat × Nat => [(9, .int .u64 s.2), (11, ii (s.1 - 1 : Nat)), (12, ii 0), (36, ii s.1)]) (fun _ => []) (fun _ => []) (fun s => s.1 ≤ l.length ∧ s.1 ≤ s.2 ∧ s.2 ≤ c.length ∧ covGo c ld (l.drop s.1) s.1 s.2 = G ∧ ((∀ y ∈ l.take s.1, y.at_ < c.length))) (fun s => l.length - s.1) hint_7_0 (by kernel_rfl) ?_ (0, 0) ⟨by simp, by simp, by simp, by simpa using hG, by simp⟩ (by simp)
 clear hG
 rintro ⟨i, n⟩ ⟨g1, g2, g3, g4, g5⟩ IH
 dsimp only at g1 g2 g3 g4 g5 ⊢
 rw [lpB_eq]
 by_cases h : i < l.length
 ·have hy := hx _ (List.getElem_mem h)
  rw [List.drop_eq_getElem_cons h, covGo] at g4
  have h0 : l[i]? = some l[i] := List.getElem?_eq_getElem h
  have hf := fun (L : Lies c l[i].at_ (l[i].at_ + l[i].len)) => FitsChk L hy
  have htk : l.take (i + 1) = l.take i ++ [l[i]] := take_snoc h
  have g5' : l[i].at_ < c.length → ∀ y ∈ l.take (i + 1), y.at_ < c.length := by
   intro hh y hy
   rw [htk, List.mem_append] at hy
   rcases hy with hy | hy
   ·exact g5 y hy
   ·rw [List.mem_singleton] at hy; subst hy; exact hh
  clear g5 htk
  obtain ⟨y, hyd⟩ : ∃ y, l[i] = y := ⟨_, rfl⟩
  rw [hyd] at hy g4 h0 hf g5'
  obtain ⟨b1, b2, b3⟩ := hy
  by_cases h1 : y.at_ ≠ n ∨ y.len = 0 ∨ c.length < n + y.len
  ·rw [if_pos h1] at g4
   subst g4
   clear IH hf g5'
   by_cases k1 : y.at_ = n
   ·by_cases k2 : y.len = 0
    ·simp (disch := omega) [if_pos, if_neg, iteK_pos, iteK_neg, h, hyd, k1, k2]
    ·have k2' : ¬ (y.len : Int) = 0 := by omega
     have k3 : c.length < n + y.len := by omega
     simp (disch := omega) [if_pos, if_neg, iteK_pos, iteK_neg, h, hyd, k1, k2', k3]
   ·have k1' : ¬ (y.at_ : Int) = n := by omega
    simp (disch := omega) [if_pos, if_neg, iteK_pos, iteK_neg, h, hyd, k1']
  ·rw [if_neg h1] at g4
   have k1 : y.at_ = n := by omega
   have k2' : ¬ (y.len : Int) = 0 := by omega
   have k3 : ¬ c.length < n + y.len := by omega
   have hL : Lies c y.at_ (y.at_ + y.len) := ⟨by omega, by omega, by omega, by omega⟩
   have hf := hf hL
   have g5 := g5' (by omega)
   clear g5' hL
   rw [k1] at hf g4
   obtain ⟨A, hA⟩ : ∃ A, anyL ld (n + 1) (y.len - 1) = A := ⟨_, rfl⟩
   rw [hA] at g4
   simp (disch := omega) [if_pos, if_neg, iteK_pos, iteK_neg, h, hyd, k1, k2', k3]
   refine loop_chg (dyn := []) (fun k : Nat => [(12, ii 0), (16, .int .u32 k)]) (fun _ => []) (fun _ => []) (fun k => n + 1 ≤ k ∧ k ≤ n + y.len ∧ anyL ld k (n + y.len - k) = A) (fun k => n + y.len - k) hint_7_1 (by kernel_rfl) ?_ (n + 1) ⟨by omega, by omega, by rw [← hA]; congr 1; omega⟩ (by simp)
   clear hA
   rintro k ⟨q1, q2, q3⟩ IH2
   rw [lpB_eq]
   by_cases hk : k < n + y.len
   ·have hHk := fun lent => hH lent k (by omega)
    rw [decide_eq_true (show k < n1 by omega), Bool.true_and] at hHk
    rw [show n + y.len - k = (n + y.len - (k + 1)) + 1 by omega, anyL] at q3
    have hk' : (k : Int) < n + y.len := by omega
    cases hlk : ld k with
    | true =>
     rw [hlk] at hHk q3
     rw [← q3, if_pos (by simp)] at g4
     subst g4
     clear IH IH2 hf
     simp (disch := omega) [if_pos, if_neg, iteK_pos, iteK_neg, hk', hHk]
    | false =>
     rw [hlk, Bool.false_or] at q3
     rw [hlk] at hHk
     clear IH hf
     simp (disch := omega) [if_pos, if_neg, iteK_pos, iteK_neg, hk', hHk]
     exact IH2 (k + 1) _ _ ⟨by omega, by omega, q3⟩ (by omega) (by simp)
   ·obtain rfl : k = n + y.len := by omega
    rw [Nat.sub_self, anyL] at q3
    rw [← q3, if_neg (by simp)] at g4
    clear IH2
    have e1 : ((n + y.len : Nat) : Int) = (n : Int) + y.len := by omega
    rcases hf with ⟨hf, hfb⟩ | ⟨s, hf, hfb⟩
    ·rw [hfb, if_neg (by simp)] at g4
     subst g4
     clear IH
     simp only [e1] at hf
     simp (disch := omega) [if_pos, if_neg, iteK_pos, iteK_neg, hf]
    ·simp only [e1] at hf
     by_cases hs : s.len = y.len ∧ s.op = y.op ∧ s.a = y.a ∧ s.b = y.b
     ·rw [show fitB c y = true by rw [hfb]; exact decide_eq_true hs, if_pos rfl] at g4
      obtain ⟨z1, z2, z3, z4⟩ := s
      obtain ⟨w1, w2, w3, w4⟩ := hs
      dsimp only at w1 w2 w3 w4
      subst w1 w2 w3 w4
      simp (disch := omega) [if_pos, if_neg, iteK_pos, iteK_neg, hf, neq_fused, s4]
      refine IH (i + 1, n + y.len) _ _ ⟨by dsimp only; omega, by dsimp only; omega, by dsimp only; omega, g4, g5⟩ (by dsimp only; omega) (by simp)
     ·rw [show fitB c y = false by rw [hfb]; exact decide_eq_false hs, if_neg (by simp)] at g4
      subst g4
      clear IH
      have hs' : ¬ ((s.len : Int) = y.len ∧ (s.op : Int) = y.op ∧ (s.a : Int) = y.a ∧ (s.b : Int) = y.b) := by omega
      simp (disch := omega) [if_pos, if_neg, iteK_pos, iteK_neg, hf, neq_fused, hs']
 ·obtain rfl : i = l.length := by omega
  clear IH
  rw [List.drop_length, covGo] at g4
  rw [List.take_length] at g5
  subst g4
  have hmp := hmp (decide (n = c.length)) (fun hh => ⟨by omega, g5⟩)
  have e2 : (decide ((n : Int) = c.length)) = decide (n = c.length) := decide_eq_decide.2 (by omega)
  simp (disch := omega) [if_pos, if_neg, iteK_pos, iteK_neg, hmp, e2]
end Go.Proofs.YtfplmcpkagpaiaaGreatDoor.Fl
end
section
namespace Go.Proofs.YtfplmcpkagpaiaaGreatDoor.Fl
open Go Go.Sim Go.Sim.Cell
theorem code_good {x : Img} (T : Taken x) : ∀ i ∈ cF x, insBad i = 0 := (enc_fl T.chk).2
theorem code_len (x : Img) : (cF x).length = x.code.length := by simp [cF]
theorem lead_lt {x : Img} {k : Nat} (h : leadF x k = true) : k < (cF x).length := leadS_lt h
theorem leadL_mem {x : Img} (T : Taken x) (k : Nat) : k ∈ leadL x ↔ leadF x k = true := by
 rw [leadL, numsF_mem]
 constructor
 ·exact fun h => h.2
 ·intro h
  have := lead_lt h
  rw [code_len] at this
  exact ⟨by unfold mW; omega, h⟩
theorem lead_zero {x : Img} (T : Taken x) : leadF x 0 = true := by
 have hp := T.find.pos
 have h0 := T.find.first
 refine lead_enter (i := 0) hp ?_
 rw [getD_lt hp] at h0
 rw [h0]
 decide
theorem leadL_cons {x : Img} (T : Taken x) : ∃ r, leadL x = 0 :: r := by
 have h0 := (leadL_mem T 0).2 (lead_zero T)
 have hr := numsF_rising (leadF x) (mW x)
 show ∃ r, numsF (leadF x) (mW x) = 0 :: r
 have h0 : 0 ∈ numsF (leadF x) (mW x) := h0
 generalize numsF (leadF x) (mW x) = L at *
 cases L with
 | nil => cases h0
 | cons a r =>
  rcases List.mem_cons.1 h0 with h | h
  ·exact ⟨r, by rw [h]⟩
  ·have := (List.pairwise_cons.1 hr).1 0 h; omega
noncomputable abbrev thL (x : Img) : List Cl := rowsL (cF x) (leadL x)
theorem thL_cov {x : Img} (T : Taken x) : Cov (cF x) (leadF x) (thL x) 0 (cF x).length := by
 obtain ⟨r, hr⟩ := leadL_cons T
 have hm := fun k => leadL_mem T k
 have hp : (leadL x).Pairwise (· < ·) := numsF_rising (leadF x) (mW x)
 unfold thL
 rw [hr] at hm hp ⊢
 exact cov_rows (code_good T) (leadF x) 0 r hp (fun y hy => lead_lt ((hm y).1 hy)) fun k _ _ h => (hm k).2 h
theorem arg_lt {x : Img} (T : Taken x) : ∀ i ∈ cF x, i.arg < 4294967296 := fun i hi => ((fits_fl T.chk).ins i hi).2
theorem fc3_of {x : Img} (T : Taken x) {l : List Cl} {e : Nat} (h : Cov (cF x) (leadF x) l 0 e) : ∀ y ∈ l, FC3 y := by
 intro y hy
 have F := taken_facts T
 have hl := F.len
 rw [← code_len] at hl
 obtain ⟨_, h2, _, h4, h5⟩ := cov_mem l h y hy
 have := fit_kind h5
 exact ⟨by omega, by omega, by omega⟩
theorem tgt_of {x : Img} (T : Taken x) {l : List Cl} {e : Nat} (h : Cov (cF x) (leadF x) l 0 e) : ∀ y ∈ l, ∀ t, tgtF y = some t → t < 4294967296 := by
 intro y hy t ht
 exact tgt_lt (by omega) (arg_lt T) (cov_mem l h y hy).2.2.2.2 ht
theorem Translate_ok {x : Img} (T : Taken x) {PV : V} (hP : Solid PV) : pureV E (om E) 11 false [modX PV x] = some (.tuple [.agg [lst eCl (madeL (cF x).length (thL x)), lst eW (begF (cF x).length (thL x))], ii 0]) := by
 have F := taken_facts T
 have hl := F.len
 rw [← code_len] at hl
 have hc := thL_cov T
 have hll := cov_len _ hc
 exact Translate_walk T hP (code_good T) (numsF_rising _ _) (fun y hy => lead_lt ((leadL_mem T y).1 hy)) (by show (thL x).length ≤ 16384; omega)
  (fun y hy => by obtain ⟨_, h2, h3, _, _⟩ := cov_mem _ hc y hy; omega) (tgt_of T hc)
theorem fc3_made {n : Nat} {l : List Cl} (h : ∀ y ∈ l, FC3 y) : ∀ y ∈ madeL n l, FC3 y := by
 intro y hy
 obtain ⟨z, hz, rfl⟩ := List.mem_map.1 hy
 exact ⟨(h z hz).1, (h z hz).2, (h z hz).3⟩
theorem tgt_made {n : Nat} {l : List Cl} (h : ∀ y ∈ l, ∀ t, tgtF y = some t → t < 4294967296) : ∀ y ∈ madeL n l, ∀ t, tgtF y = some t → t < 4294967296 := by
 intro y hy t ht
 obtain ⟨z, hz, rfl⟩ := List.mem_map.1 hy
 exact h z hz t ht
theorem Check_made {x : Img} (T : Taken x) {PV : V} (hP : Solid PV) {l : List Cl} (h : Cov (cF x) (leadF x) l 0 (cF x).length) :
  pureV E (om E) 7 false [modX PV x, .agg [lst eCl (madeL (cF x).length l), lst eW (begF (cF x).length l)]] = some (.tuple [ii 0, ii 0]) := by
 have F := taken_facts T
 have hl := F.len
 rw [← code_len] at hl
 have hll := cov_len _ h
 have := CCheck T hP (madeL (cF x).length l) (begF (cF x).length l) (by simp only [madeL, List.length_map]; omega) (by rw [begF_len]; omega) (fc3_made (fc3_of T h)) (tgt_made (tgt_of T h))
 rw [made_ok h] at this
 exact this
def sampleL : Img := ⟨[⟨3, 4⟩, ⟨8, 7⟩, ⟨4, 4⟩], [], [], 0, 64, []⟩
theorem insBad_of' {i : Go.Proofs.YtfplmcpkagpaiaaGreatDoor.Instr} (h : insBad (fl i) = 0) : Go.Proofs.YtfplmcpkagpaiaaGreatDoor.insBad i = 0 := by rw [← insBad_fl]; exact h
theorem sampleL_chk : checkP sampleL = 0 := by
 have hc : codeFrom sampleL.code 0 = 0 := codeFrom_good fun i hi => insBad_of' (by
  have : sampleL.code.all (fun i => decide (insBad (fl i) = 0)) = true := by decide
  simpa using List.all_eq_true.1 this i hi)
 have hn : namesFrom sampleL.names 0 = true := namesFrom_good fun j hj => by simp [sampleL] at hj
 unfold checkP
 rw [if_neg (by decide), hc]
 rw [if_neg (by decide), if_neg (by decide), if_neg (by decide), if_neg (by decide), if_neg (by decide), hn]
 rfl
theorem sampleL_find : FindOk (cF sampleL) (jF sampleL) := by
 refine ⟨enc_fl sampleL_chk, by decide, by decide, ?_, by intro i hi; simp [sampleL] at hi⟩
 have : (List.range 3).all (fun i => decide (faultAt (cutF (cF sampleL)) (cF sampleL) i = 0)) = true := by decide
 intro i hi
 simpa using List.all_eq_true.1 this i (List.mem_range.mpr hi)
theorem sampleL_names : NamesAt (cF sampleL) sampleL.names := by
 intro i hi
 simp [sampleL] at hi
theorem sampleL_all : AllOk (cF sampleL) (jF sampleL) := by
 intro i hi
 have hn : (cutF (cF sampleL)).1.length = 1 := by rfl
 rw [hn] at hi
 have : i = 0 := by omega
 subst this
 rfl
theorem sampleL_ok : Taken sampleL := ⟨sampleL_chk, sampleL_find, sampleL_names, sampleL_all⟩
theorem sampleL_lead : leadL sampleL = [0] := by
 obtain ⟨r, hr⟩ := leadL_cons sampleL_ok
 have hm := fun k => leadL_mem sampleL_ok k
 have hp : (leadL sampleL).Pairwise (· < ·) := numsF_rising (leadF sampleL) (mW sampleL)
 rw [hr] at hm hp ⊢
 cases r with
 | nil => rfl
 | cons b r =>
  exfalso
  have hb := (hm b).1 (by simp)
  have h0 := (List.pairwise_cons.1 hp).1 b (by simp)
  have hlt : b < 3 := lead_lt hb
  have h1 : leadF sampleL 1 = false := by decide
  have h2 : leadF sampleL 2 = false := by decide
  have : b = 1 ∨ b = 2 := by omega
  rcases this with rfl | rfl
  ·rw [h1] at hb; cases hb
  ·rw [h2] at hb; cases hb
theorem sampleL_th : thL sampleL = [⟨0, 1, 1, 3, 4, 0, 0⟩, ⟨1, 1, 1, 8, 7, 0, 0⟩, ⟨2, 1, 1, 4, 4, 0, 0⟩] := by
 unfold thL
 rw [sampleL_lead]
 rfl
end Go.Proofs.YtfplmcpkagpaiaaGreatDoor.Fl
end
section
namespace Go.Proofs.YtfplmcpkagpaiaaGreatDoor.Fl
open Go Go.Sim Go.Sim.Cell
theorem sol0 : Solid (.pcon [] 0) := ⟨by simp, by simp, by simp⟩
theorem Lives : pureV E (om E) 5 false [] = some (bb true) := by
 have hT := Take_own sampleL sampleL_ok
 have hX : imgV sampleL = .agg [.scon [.int .u8 3, .int .u32 4, .int .u8 8, .int .u32 7, .int .u8 4, .int .u32 4] 0 3 false, .scon [] 0 0 false, .scon [] 0 0 false, .int .u32 0, .int .u32 64, .scon [] 0 0 false] := by rfl
 rw [hX] at hT
 have hR := Translate_ok sampleL_ok sol0
 have hC := Check_made sampleL_ok sol0 (thL_cov sampleL_ok)
 rw [sampleL_th] at hR hC
 have hl : (cF sampleL).length = 3 := by rfl
 rw [hl] at hR hC
 have hb : begF 3 [⟨0, 1, 1, 3, 4, 0, 0⟩, ⟨1, 1, 1, 8, 7, 0, 0⟩, ⟨2, 1, 1, 4, 4, 0, 0⟩] = [0, 1, 2] := by rfl
 have hml : (madeL 3 [⟨0, 1, 1, 3, 4, 0, 0⟩, ⟨1, 1, 1, 8, 7, 0, 0⟩, ⟨2, 1, 1, 4, 4, 0, 0⟩]).length = 3 := by rfl
 rw [hb] at hR hC
 generalize madeL 3 [⟨0, 1, 1, 3, 4, 0, 0⟩, ⟨1, 1, 1, 8, 7, 0, 0⟩, ⟨2, 1, 1, 4, 4, 0, 0⟩] = M at *
 obtain ⟨hSo, hM, hI⟩ := mod_facts sampleL_ok sol0
 have s4 := hSo.settle
 obtain ⟨s1, s2, s3⟩ := hSo
 generalize modX (.pcon [] 0) sampleL = MX at *
 have hg : (cat eW [0, 1, 2])[2]? = some (.int .u32 2) := by rfl
 have cutL : V.canonL (cutCells [.int .u8 3, .int .u32 4, .int .u8 8, .int .u32 7, .int .u8 4, .int .u32 4] 0 3 2) = [.int .u8 3, .int .u32 4, .int .u8 8, .int .u32 7, .int .u8 4, .int .u32 4] := by rfl
 apply pu_5
 simp (disch := omega) [if_pos, if_neg, iteK_pos, iteK_neg, Tryz.f5, cutL, hT, hR, hC, s1, s2, s3, s4, hml, hg]
end Go.Proofs.YtfplmcpkagpaiaaGreatDoor.Fl
end
