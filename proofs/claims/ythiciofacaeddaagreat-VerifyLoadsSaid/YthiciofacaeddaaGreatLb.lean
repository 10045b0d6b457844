/-
 The laws' functions: taken.
 The laws' functions: told, whole.
 The laws' functions: told of a taken image.
 The laws' functions: SameImage, sameProcs, whole.
-/
import Derived.Test.YthiciofacaeddaaGreatLa
import Derived.Test.YthiciofacaeddaaGreatVb
section
namespace Go.Proofs.YthiciofacaeddaaGreat
open Go Go.Sim
set_option maxRecDepth 100000
set_option maxHeartbeats 0
set_option linter.unusedSimpArgs false
set_option linter.unusedVariables false

theorem cut_pre {α : Type} (e : Enc α) (a b : List α) {k : Nat} (hk : k = e.k) : cutCells (cat e (a ++ b)) 0 a.length k = cat e a := by
 subst hk
 have := cat_cut e (a ++ b) 0 a.length
 rw [Nat.zero_mul] at this
 rw [this]; simp
theorem eq_prefM (x y : Operand) (d j o e : Nat) : binO E .eql 29 x y (.pref d j o e) .nilptr = some (.bool false) := by
 show binV E .eql 29 (.pref d j o e) .nilptr = some (.bool false)
 have h : E.P.underlying 29 = some (.pointer 122) := by kernel_rfl
 unfold binV
 simp [eqV, h]
theorem eq_nilM (x y : Operand) : binO E .eql 29 x y .nilptr .nilptr = some (.bool true) := by
 show binV E .eql 29 .nilptr .nilptr = some (.bool true)
 have h : E.P.underlying 29 = some (.pointer 122) := by kernel_rfl
 unfold binV
 simp [eqV, h]
theorem eqv_boolV {E : Env} {n : Nat} {t : TypeId} {a b : Bool} (hu : E.P.underlying t = some .bool) : eqV E (n + 1) t (.bool a) (.bool b) = some (a == b) := by
 simp only [eqV, hu]
theorem neqBool (p q : Operand) (a b : Bool) : binO E .neq 4 p q (bb a) (bb b) = some (bb (a != b)) := by
 have h : eqV E 200 4 (.bool a) (.bool b) = some (a == b) := eqv_boolV (n := 199) (by rw [E_P]; exact Tryz.underlying4)
 simp [binO, binV, h, bne]
end Go.Proofs.YthiciofacaeddaaGreat
end
section
namespace Go.Proofs.YthiciofacaeddaaGreat
open Go Go.Sim
set_option maxRecDepth 100000
set_option maxHeartbeats 0
set_option linter.unusedSimpArgs false
set_option linter.unusedVariables false

theorem eqlBool (p q : Operand) (a b : Bool) : binO E .eql 4 p q (bb a) (bb b) = some (bb (a == b)) := by
 have h : eqV E 200 4 (.bool a) (.bool b) = some (a == b) := eqv_boolV (n := 199) (by rw [E_P]; exact Tryz.underlying4)
 simp [binO, binV, h]
theorem eqProc (a b c d : Int) : eqV E 200 86 (.agg [.int .u32 a, .int .u32 b, .int .u32 c, ii d]) (.agg [.int .u32 a, .int .u32 b, .int .u32 c, ii d]) = some true := by
 rw [eqV_struct (n := 199) (by rw [E_P]; exact Tryz.underlying86) (by kernel_rfl)]
 have hi : ∀ n (k : IntKind) (t : TypeId) (z : Int), E.P.underlying t = some (.int k) → eqV E (n + 1) t (.int k z) (.int k z) = some true := fun n k t z h => by rw [eqV_int h]; simp
 have e25 : E.P.underlying 25 = some (.int .u32) := by kernel_rfl
 have e3 : E.P.underlying 3 = some (.int .i64) := by kernel_rfl
 refine Eq.trans (eqF_cons (n := 198) (by rfl) (by rw [E_P]; kernel_rfl) (by rfl) (by rfl)) ?_
 rw [hi 197 .u32 _ _ e25]; simp only [Option.bind_some, if_true]
 refine Eq.trans (eqF_cons (n := 197) (by rfl) (by rw [E_P]; kernel_rfl) (by rfl) (by rfl)) ?_
 rw [hi 196 .u32 _ _ e25]; simp only [Option.bind_some, if_true]
 refine Eq.trans (eqF_cons (n := 196) (by rfl) (by rw [E_P]; kernel_rfl) (by rfl) (by rfl)) ?_
 rw [hi 195 .u32 _ _ e25]; simp only [Option.bind_some, if_true]
 refine Eq.trans (eqF_cons (n := 195) (by rfl) (by rw [E_P]; kernel_rfl) (by rfl) (by rfl)) ?_
 rw [hi 194 .i64 _ _ e3]
 rfl
theorem neqProc (p q : Operand) (a b c d : Int) : binO E .neq 86 p q (.agg [.int .u32 a, .int .u32 b, .int .u32 c, ii d]) (.agg [.int .u32 a, .int .u32 b, .int .u32 c, ii d]) = some (bb false) := binO_neq (eqProc a b c d)
theorem Told_walk {M R : V} (hM : Solid M) (hR : Solid R) (i to : Nat) (I : Instr) (is lies : Bool) (p : Fl.PR) (need d : Int) (bg lg bk : Bool)
  (a1 : pureV E (om E) 36 false [M, .int .u32 i] = some (.tuple [insV I, bb is])) (a2 : pureV E (om E) 37 false [R, .int .u32 i] = some (.tuple [insV I, bb is]))
  (p1 : pureV E (om E) 38 false [M, .int .u32 i] = some (.tuple [pnV p need, bb lies])) (p2 : pureV E (om E) 39 false [R, .int .u32 i] = some (.tuple [pnV p need, bb lies]))
  (b1 : pureV E (om E) 40 false [M, .int .u32 i] = some (bb bg)) (b2 : pureV E (om E) 41 false [R, .int .u32 i] = some (bb bg))
  (d1 : pureV E (om E) 28 false [M, .int .u32 i] = some (ii d)) (d2 : pureV E (om E) 42 false [R, .int .u32 i] = some (ii d))
  (l1 : pureV E (om E) 43 false [M, .int .u32 i, .int .u32 to] = some (bb lg)) (l2 : pureV E (om E) 44 false [R, .int .u32 i, .int .u32 to] = some (bb lg))
  (k1 : pureV E (om E) 45 false [M, .int .u32 i] = some (bb bk)) (k2 : pureV E (om E) 46 false [R, .int .u32 i] = some (bb bk)) :
  pureV E (om E) 10 false [M, R, .int .u32 i, .int .u32 to] = some (bb true) := by
 apply pu_10
 obtain ⟨h1, h2, h3⟩ := hM
 obtain ⟨g1, g2, g3⟩ := hR
 simp (disch := omega) [if_pos, if_neg, iteK_pos, iteK_neg, Tryz.f10, h1, h2, h3, g1, g2, g3, a1, a2, p1, p2, b1, b2, d1, d2, l1, l2, k1, k2, neqInstr, neqProc, neqBool, eqlBool]
theorem ProcsOf_no2 (s : Fl.PRs) (ts : List (List Nat)) (i : Nat) (hi : s.2.length ≤ i) (hi' : i < 4294967296) : pureV E (om E) 134 false [Fl.procsV s ts, .int .u32 i] = some (ii (-1)) := Fl.ProcsOf_no s ts i hi hi'
section
variable (s : Fl.PRs) (ts : List (List Nat)) (nd ds : List Int) (x : Img) (b dg : Nat)
theorem MProcOf_no (i : Nat) (hi : s.2.length ≤ i) (hi' : i < 4294967296) : pureV E (om E) 38 false [modM (Fl.procsV s ts) nd ds x b dg, .int .u32 i] = some (.tuple [pnV ⟨0, 0, 0⟩ 0, bb false]) := by
 have hP := procs_solid s ts
 have hA := MAll hP nd ds x b dg
 have hO := ProcsOf_no2 s ts i hi hi'
 have hW : pureV E (om E) 77 false [.agg [Fl.procsV s ts, lst Fl.eI nd], .int .u32 i] = some (.tuple [pnV ⟨0, 0, 0⟩ 0, bb false]) := by
  generalize Fl.procsV s ts = PV at *
  apply pu_77
  obtain ⟨h1, h2, h3⟩ := hP
  simp (disch := omega) [if_pos, if_neg, iteK_pos, iteK_neg, Tryz.f77, hO, h1, h2, h3]
 generalize Fl.procsV s ts = PV at *
 apply pu_38
 obtain ⟨h1, h2, h3⟩ := hP
 simp (disch := omega) [if_pos, if_neg, iteK_pos, iteK_neg, Tryz.f38, h1, h2, h3, hA, hW]
theorem MLegal_no (i t : Nat) (hi : s.2.length ≤ i) (hi' : i < 4294967296) : pureV E (om E) 43 false [modM (Fl.procsV s ts) nd ds x b dg, .int .u32 i, .int .u32 t] = some (bb false) := by
 have hP := procs_solid s ts
 have hA := MAll hP nd ds x b dg
 have hO := ProcsOf_no2 s ts i hi hi'
 have hL : ∀ lent, pureV E (om E) 135 lent [Fl.procsV s ts, .int .u32 i, .int .u32 t] = some (bb false) := fun lent => by
  generalize Fl.procsV s ts = PV at *
  apply pu_135
  obtain ⟨h1, h2, h3⟩ := hP
  simp (disch := omega) [if_pos, if_neg, iteK_pos, iteK_neg, Tryz.f135, hO, h1, h2, h3]
 have hW : pureV E (om E) 79 false [.agg [Fl.procsV s ts, lst Fl.eI nd], .int .u32 i, .int .u32 t] = some (bb false) := by
  generalize Fl.procsV s ts = PV at *
  apply pu_79
  obtain ⟨h1, h2, h3⟩ := hP
  simp (disch := omega) [if_pos, if_neg, iteK_pos, iteK_neg, Tryz.f79, hL, h1, h2, h3]
 generalize Fl.procsV s ts = PV at *
 apply pu_43
 obtain ⟨h1, h2, h3⟩ := hP
 simp (disch := omega) [if_pos, if_neg, iteK_pos, iteK_neg, Tryz.f43, h1, h2, h3, hA, hW]
end
end Go.Proofs.YthiciofacaeddaaGreat
end
section
namespace Go.Proofs.YthiciofacaeddaaGreat
open Go Go.Sim
set_option maxRecDepth 100000
set_option maxHeartbeats 0
set_option linter.unusedSimpArgs false
set_option linter.unusedVariables false

theorem get_of {α : Type} {l : List α} {d : α} {j k : Nat} (h : j = k) {hj : j < l.length} : l[j] = l.getD k d := by subst h; exact (Fl.getD_lt hj).symm
theorem mod_eq (x : Img) : modV x = modM (Fl.procsV (sF x) (tsF x)) (nF x) (dF x) x (bitsI x) (digestP x) := rfl
theorem tgt_sub (s : Fl.PRs) (jumps : List Nat) : ∀ m, m ≤ jumps.length → ∀ k, ∀ t ∈ (Fl.tgtN s jumps m).getD k [], t ∈ jumps
 | 0, _, k, t, ht => by
  rw [Fl.tgtN] at ht
  by_cases hk : k < s.1.length
  ·rw [Fl.getD_lt (by simpa using hk)] at ht; simp at ht
  ·rw [Fl.getD_ge (by simp; omega)] at ht; simp at ht
 | m + 1, hm, k, t, ht => by
  rw [Fl.tgtN, Fl.getD_set] at ht
  have ih := tgt_sub s jumps m (by omega)
  split at ht
  ·rcases List.mem_append.mp ht with h | h
   ·exact ih _ t h
   ·simp only [List.mem_singleton] at h
    rw [h, Fl.getD_lt (by omega)]
    exact List.getElem_mem _
  ·exact ih k t ht
theorem legal_iff {x : Img} (h : Taken x) (F : TakenFacts x) {i : Nat} (hi : i < x.code.length) (t : Nat) :
  t ∈ (tsF x).getD (Fl.ofI (sF x) i) [] ↔ ((Fl.prOf (sF x) (Fl.ofI (sF x) i)).b ≤ t ∧ t < (Fl.prOf (sF x) (Fl.ofI (sF x) i)).e ∧ t ∈ jF x) := by
 have hcl : (cF x).length = x.code.length := by simp [cF]
 constructor
 ·intro hm
  have hj : t ∈ jF x := tgt_sub _ _ _ (Nat.le_refl _) _ _ hm
  have := (Fl.tgt_iff h.find (i := i) (by omega) hj).1 hm
  exact ⟨Nat.le_of_lt this.1, this.2, hj⟩
 ·rintro ⟨h1, h2, hj⟩
  refine (Fl.tgt_iff h.find (i := i) (by omega) hj).2 ⟨?_, h2⟩
  rcases Nat.lt_or_ge (Fl.prOf (sF x) (Fl.ofI (sF x) i)).b t with hlt | hge
  ·exact hlt
  ·exfalso
   obtain rfl : t = (Fl.prOf (sF x) (Fl.ofI (sF x) i)).b := by omega
   obtain ⟨j, hjl, hje⟩ := List.getElem_of_mem hj
   have hc : Fl.CutOk (cF x) (cF x).length (sF x) := by rw [hcl]; exact F.cut
   have hm := Fl.tgt_mem hc h.find.jumps (jF x).length (Nat.le_refl _) j hjl
   rw [Fl.getD_lt hjl, hje, F.cut.conv _ (F.cut.lt i hi) _ (Nat.le_refl _) h2] at hm
   exact Nat.lt_irrefl _ ((Fl.tgt_iff h.find (i := i) (by omega) hj).1 hm).1
theorem begins_eq {x : Img} (F : TakenFacts x) {i : Nat} (hi : i < x.code.length) : Fl.beginsF (sF x) i = decide ((Fl.prOf (sF x) (Fl.ofI (sF x) i)).b = i) := by
 unfold Fl.beginsF
 have := F.cut.len
 congr 1
 apply propext
 constructor
 ·rintro ⟨_, h⟩; exact h
 ·intro h; exact ⟨by omega, h⟩
theorem begins_no {x : Img} (F : TakenFacts x) {i : Nat} (hi : ¬ i < x.code.length) : Fl.beginsF (sF x) i = false := by
 unfold Fl.beginsF
 have := F.cut.len
 apply decide_eq_false
 rintro ⟨h, _⟩; omega
theorem chain_le {x : Img} (F : TakenFacts x) : ∀ d n, n + 1 + d < (sF x).1.length → (Fl.prOf (sF x) n).e ≤ (Fl.prOf (sF x) (n + 1 + d)).b
 | 0, n, h => by rw [Nat.add_zero, F.chain.next n h]; exact Nat.le_refl _
 | d + 1, n, h => by
  have ih := chain_le F d n (by omega)
  have hp := (F.cut.pr (n + 1 + d) (by omega)).1
  have := F.chain.next (n + 1 + d) h
  have e : n + 1 + (d + 1) = n + 1 + d + 1 := by omega
  rw [e, this]
  omega
theorem Told (x : Img) (h : Taken x) (i t : Nat) (hi : i < 4294967296) (ht : t < 4294967296) : pureV E (om E) 10 false [modV x, refV x, .int .u32 i, .int .u32 t] = some (bb true) := by
 have F := taken_facts h
 have hts : (tsF x).length = (sF x).1.length := Fl.tgtN_len _ _ _
 have hol : (sF x).2.length = x.code.length := F.cut.len
 have hso : ∀ i, (hi : i < x.code.length) → (sF x).2[i]'(by omega) = Fl.ofI (sF x) i := fun i hi => (Fl.getD_lt (by omega)).symm
 have hlt : ∀ i, i < x.code.length → Fl.ofI (sF x) i < (sF x).1.length := fun i hi => F.cut.lt i hi
 have hpo : ∀ p ∈ (sF x).2, p < (sF x).1.length := Fl.cutN_of h.find.first _
 have hjl : x.jumps.length ≤ 16384 := F.jlen
 have hlen := F.len
 have hdl := F.dlen
 have hM := procs_solid (sF x) (tsF x)
 have hsol : Solid (modM (Fl.procsV (sF x) (tsF x)) (nF x) (dF x) x (bitsI x) (digestP x)) := by
  obtain ⟨g1, g2, g3⟩ := hM
  refine ⟨?_, ?_, ?_⟩ <;> simp [Fl.canon_lsts]
 have hDE := MDepth hM (nF x) (dF x) x (bitsI x) (digestP x) false (by omega) i hi
 have hBA := MBack hM (nF x) (dF x) x (bitsI x) (digestP x) false F.dlen.symm (by omega) i hi
 have hBE := MBegins (sF x) (tsF x) (nF x) (dF x) x (bitsI x) (digestP x) false i hi hpo
 have hDR := RMDepth ((sF x).1.zip (nF x)) (dF x) x (bitsI x) false (by omega) i hi
 have hBR := RMBack ((sF x).1.zip (nF x)) (dF x) x (bitsI x) false F.dlen.symm (by omega) i hi
 have hzl : ((sF x).1.zip (nF x)).length = (sF x).1.length := by have := F.nlen; simp; omega
 have hzg : ∀ n, (hn : n < ((sF x).1.zip (nF x)).length) → (((sF x).1.zip (nF x))[n]).1 = Fl.prOf (sF x) n ∧ (((sF x).1.zip (nF x))[n]).2 = (nF x).getD n 0 := fun n hn => by
  rw [List.getElem_zip]
  exact ⟨(Fl.getD_lt (by omega)).symm, (Fl.getD_lt (by have := F.nlen; omega)).symm⟩
 have hplen := F.plen
 have hR : Solid (refM ((sF x).1.zip (nF x)) (dF x) x (bitsI x)) := by refine ⟨?_, ?_, ?_⟩ <;> simp
 rw [mod_eq]
 show pureV E (om E) 10 false [_, refM ((sF x).1.zip (nF x)) (dF x) x (bitsI x), .int .u32 i, .int .u32 t] = some (bb true)
 by_cases hlt' : i < x.code.length
 ·have hk := hlt i hlt'
  have hrise : Fl.Rising ((tsF x)[(sF x).2[i]'(by omega)]'(by rw [hso i hlt', hts]; exact hk)) ∧ ((tsF x)[(sF x).2[i]'(by omega)]'(by rw [hso i hlt', hts]; exact hk)).length ≤ 16384 := by
   have hkk : (sF x).2[i]'(by omega) < (tsF x).length := by rw [hso i hlt', hts]; exact hk
   have h1 := (Fl.tgt_rise h.find.jumps (jF x).length (Nat.le_refl _) ((sF x).2[i]'(by omega))).1
   have h2 := Fl.tgtN_le (sF x) (jF x) (jF x).length _ (List.getElem_mem hkk)
   rw [Fl.getD_lt hkk] at h1
   have h3 : (jF x).length = x.jumps.length := by simp [jF]
   exact ⟨h1, by omega⟩
  have hPO := MProcOf (sF x) (tsF x) (nF x) (dF x) x (bitsI x) (digestP x) false i (by omega) (by omega) (by rw [hso i hlt']; exact hk) F.nlen
  have hLE := MLegal (sF x) (tsF x) (nF x) (dF x) x (bitsI x) (digestP x) false i t (by omega) (by omega) (by rw [hso i hlt']; exact hk) hts hrise.1 (by have := hrise.2; omega)
  have hAT := MAt hM (nF x) (dF x) x (bitsI x) (digestP x) false F.len i hlt'
  have hp : (sF x).1[(sF x).2[i]'(by omega)]'(by rw [hso i hlt']; exact hk) = Fl.prOf (sF x) (Fl.ofI (sF x) i) := get_of (d := default) (hso i hlt')
  have hnn : (nF x)[(sF x).2[i]'(by omega)]'(by rw [hso i hlt', F.nlen]; exact hk) = (nF x).getD (Fl.ofI (sF x) i) 0 := get_of (d := 0) (hso i hlt')
  have htt : (tsF x)[(sF x).2[i]'(by omega)]'(by rw [hso i hlt', hts]; exact hk) = (tsF x).getD (Fl.ofI (sF x) i) [] := get_of (d := []) (hso i hlt')
  rw [hp, hnn] at hPO
  rw [htt] at hLE
  rw [begins_eq F hlt'] at hBE
  have hins := F.cut.ins i hlt'
  have hPR := fun lent => RMProcOf ((sF x).1.zip (nF x)) (dF x) x (bitsI x) lent (by omega) i hi (Fl.ofI (sF x) i) (by omega) (by rw [(hzg _ (by omega)).1]; exact hins) (fun n hn => by
   rw [(hzg n (by omega)).1]
   have := chain_le F (Fl.ofI (sF x) i - n - 1) n (by omega)
   rw [show n + 1 + (Fl.ofI (sF x) i - n - 1) = Fl.ofI (sF x) i by omega] at this
   omega)
  rw [(hzg _ (by omega)).1, (hzg _ (by omega)).2] at hPR
  have hBEr := RMBegins_of ((sF x).1.zip (nF x)) (dF x) x (bitsI x) false i hPR
  have hLEr := RMLegal ((sF x).1.zip (nF x)) (dF x) x (bitsI x) false hjl i t ht hPR
  have hATr := RMAt ((sF x).1.zip (nF x)) (dF x) x (bitsI x) false hlen i hi hlt'
  have hiff : decide (t ∈ (tsF x).getD (Fl.ofI (sF x) i) []) = decide ((Fl.prOf (sF x) (Fl.ofI (sF x) i)).b ≤ t ∧ t < (Fl.prOf (sF x) (Fl.ofI (sF x) i)).e ∧ t ∈ jF x) := by
   congr 1; exact propext (legal_iff h F hlt' t)
  rw [hiff] at hLE
  rw [Bool.true_and] at hBEr
  exact Told_walk hsol hR i t _ true true _ _ _ _ _ _ hAT hATr hPO (hPR false) hBE hBEr hDE hDR hLE hLEr hBA hBR
 ·have hAT := MAt_no hM (nF x) (dF x) x (bitsI x) (digestP x) false F.len i hi hlt'
  have hPO := MProcOf_no (sF x) (tsF x) (nF x) (dF x) x (bitsI x) (digestP x) i (by omega) hi
  have hLE := MLegal_no (sF x) (tsF x) (nF x) (dF x) x (bitsI x) (digestP x) i t (by omega) hi
  have hPR := fun lent => RMProcOf_no ((sF x).1.zip (nF x)) (dF x) x (bitsI x) lent (by omega) i hi (fun n hn => by
   rw [(hzg n hn).1]
   have := (F.cut.pr n (by omega)).2.1
   omega)
  have hBEr := RMBegins_of ((sF x).1.zip (nF x)) (dF x) x (bitsI x) false i hPR
  have hLEr := RMLegal_no ((sF x).1.zip (nF x)) (dF x) x (bitsI x) false i t hPR
  have hATr := RMAt_no ((sF x).1.zip (nF x)) (dF x) x (bitsI x) false hlen i hi hlt'
  rw [begins_no F hlt'] at hBE
  rw [Bool.false_and] at hBEr
  exact Told_walk hsol hR i t _ false false _ _ _ _ _ _ hAT hATr hPO (hPR false) hBE hBEr hDE hDR hLE hLEr hBA hBR
end Go.Proofs.YthiciofacaeddaaGreat
end
section
namespace Go.Proofs.YthiciofacaeddaaGreat
open Go Go.Sim
set_option maxRecDepth 100000
set_option maxHeartbeats 0
set_option linter.unusedSimpArgs false
set_option linter.unusedVariables false

theorem SameImage_self (lent) (x : Img) (h1 : x.code.length < 2 ^ 40) (h2 : x.jumps.length < 2 ^ 40) (h3 : x.data.length < 2 ^ 40) (h4 : x.names.length < 2 ^ 40) : pureV E (om E) 29 lent [imgV x, imgV x] = some (bb true) := by
 apply pu_29
 simp (disch := omega) [if_pos, if_neg, iteK_pos, iteK_neg, Tryz.f29]
 refine loop_chg (dyn := []) (fun i : Nat => [(5, ii i)]) (fun _ => []) (fun _ => []) (fun i => i ≤ x.code.length) (fun i => x.code.length - i) hint_29_0 (by kernel_rfl) ?_ 0 (by omega) (by simp)
 intro i hi IH
 rw [lpB_eq]
 by_cases hlt : i < x.code.length
 ·simp (disch := omega) [if_pos, if_neg, iteK_pos, iteK_neg, hlt]
  exact IH (i + 1) _ _ (by omega) (by omega) (by simp)
 ·obtain rfl : i = x.code.length := by omega
  clear IH hi
  simp (disch := omega) [if_pos, if_neg, iteK_pos, iteK_neg, hlt]
  refine loop_chg (dyn := []) (fun i : Nat => [(6, ii i)]) (fun _ => []) (fun _ => []) (fun i => i ≤ x.jumps.length) (fun i => x.jumps.length - i) hint_29_1 (by kernel_rfl) ?_ 0 (by omega) (by simp)
  intro i hi IH
  rw [lpB_eq]
  by_cases hlt : i < x.jumps.length
  ·simp (disch := omega) [if_pos, if_neg, iteK_pos, iteK_neg, hlt]
   exact IH (i + 1) _ _ (by omega) (by omega) (by simp)
  ·obtain rfl : i = x.jumps.length := by omega
   clear IH hi
   simp (disch := omega) [if_pos, if_neg, iteK_pos, iteK_neg, hlt]
   refine loop_chg (dyn := []) (fun i : Nat => [(7, ii i)]) (fun _ => []) (fun _ => []) (fun i => i ≤ x.data.length) (fun i => x.data.length - i) hint_29_2 (by kernel_rfl) ?_ 0 (by omega) (by simp)
   intro i hi IH
   rw [lpB_eq]
   by_cases hlt : i < x.data.length
   ·simp (disch := omega) [if_pos, if_neg, iteK_pos, iteK_neg, hlt]
    exact IH (i + 1) _ _ (by omega) (by omega) (by simp)
   ·obtain rfl : i = x.data.length := by omega
    clear IH hi
    simp (disch := omega) [if_pos, if_neg, iteK_pos, iteK_neg, hlt]
    refine loop_chg (dyn := []) (fun i : Nat => [(8, ii i)]) (fun _ => []) (fun _ => []) (fun i => i ≤ x.names.length) (fun i => x.names.length - i) hint_29_3 (by kernel_rfl) ?_ 0 (by omega) (by simp)
    intro i hi IH
    rw [lpB_eq]
    by_cases hlt : i < x.names.length
    ·simp (disch := omega) [if_pos, if_neg, iteK_pos, iteK_neg, hlt]
     exact IH (i + 1) _ _ (by omega) (by omega) (by simp)
    ·simp (disch := omega) [if_pos, if_neg, iteK_pos, iteK_neg, hlt]
theorem SameProcs_self (lent) (pl : List (Fl.PR × Int)) (hl : pl.length < 2 ^ 40) : pureV E (om E) 32 lent [lst ePN pl, lst ePN pl] = some (bb true) := by
 apply pu_32
 simp (disch := omega) [if_pos, if_neg, iteK_pos, iteK_neg, Tryz.f32]
 refine loop_chg (dyn := []) (fun i : Nat => [(5, ii i)]) (fun _ => []) (fun _ => []) (fun i => i ≤ pl.length) (fun i => pl.length - i) hint_32_0 (by kernel_rfl) ?_ 0 (by omega) (by simp)
 intro i hi IH
 rw [lpB_eq]
 by_cases hlt : i < pl.length
 ·have g0 := ePN_get (l := pl) (k := i) (j := 0) (by omega) hlt
  have g1 := ePN_get (l := pl) (k := i) (j := 1) (by omega) hlt
  have g2 := ePN_get (l := pl) (k := i) (j := 2) (by omega) hlt
  have g3 := ePN_get (l := pl) (k := i) (j := 3) (by omega) hlt
  simp (disch := omega) [if_pos, if_neg, iteK_pos, iteK_neg, hlt, g0, g1, g2, g3, neqProc]
  exact IH (i + 1) _ _ (by omega) (by omega) (by simp)
 ·simp (disch := omega) [if_pos, if_neg, iteK_pos, iteK_neg, hlt]
end Go.Proofs.YthiciofacaeddaaGreat
end
