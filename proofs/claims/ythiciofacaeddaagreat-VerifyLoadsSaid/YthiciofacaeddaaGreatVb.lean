/-
 slices.BinarySearch; procs.Legal; the methods of a module.
 The methods of a module.
 Plain: what a taken image's instructions are.
-/
import Derived.Test.YthiciofacaeddaaGreatVa
import Derived.Test.YthiciofacaeddaaGreatFg
section
namespace Go.Proofs.YthiciofacaeddaaGreat
open Go Go.Sim
set_option maxRecDepth 100000
set_option maxHeartbeats 0
set_option linter.unusedSimpArgs false
set_option linter.unusedVariables false

theorem CIsNaN (lent) (a : Nat) : pureV E (om E) 200 lent [.int .u32 a] = some (bb false) := by
 apply pu_200
 simp (disch := omega) [if_pos, if_neg, iteK_pos, iteK_neg, Tryz.f200]
theorem CmpLess (lent) (a b : Nat) : pureV E (om E) 192 lent [.int .u32 a, .int .u32 b] = some (bb (decide (a < b))) := by
 apply pu_192
 by_cases h : a < b <;> simp (disch := omega) [if_pos, if_neg, iteK_pos, iteK_neg, Tryz.f192, CIsNaN, h]
theorem SIsNaN (lent) (a : Nat) : pureV E (om E) 193 lent [.int .u32 a] = some (bb false) := by
 apply pu_193
 simp (disch := omega) [if_pos, if_neg, iteK_pos, iteK_neg, Tryz.f193]
theorem BSearch (l : List Nat) (hl : l.length ≤ 35184372087808) (hs : Fl.Rising l) (x : Nat) : ∃ p : Nat, ∀ lent, pureV E (om E) 171 lent [lst Fl.eW l, .int .u32 x] = some (.tuple [ii p, bb (decide (x ∈ l))]) := by
 obtain ⟨p, p1, p2, p3⟩ := Fl.first_bad (fun i => x ≤ l.getD i 0) l.length
 have q2 : ∀ i, i < p → (h : i < l.length) → l[i] < x := fun i hi h => by have := p2 i hi; rw [Fl.getD_lt h] at this; omega
 have q3 : ∀ i, p ≤ i → (h : i < l.length) → x ≤ l[i] := fun i hi h => by
  have h3 := p3 (by omega)
  rw [Fl.getD_lt (by omega : p < l.length)] at h3
  rcases Nat.lt_or_ge p i with h4 | h4
  ·have := hs p i h4 h; omega
  ·obtain rfl : i = p := by omega
   exact h3
 refine ⟨p, fun lent => ?_⟩
 apply pu_171
 simp (disch := omega) [if_pos, if_neg, iteK_pos, iteK_neg, Tryz.f171]
 refine loop_chg (dyn := []) (fun a : Nat × Nat => [(7, ii a.1), (8, ii a.2)]) (fun _ => []) (fun _ => []) (fun a => a.1 ≤ p ∧ p ≤ a.2 ∧ a.2 ≤ l.length) (fun a => a.2 - a.1) hint_171_0 (by kernel_rfl) ?_ (0, l.length) (by simp [p1]) (by simp)
 rintro ⟨i, j⟩ ⟨h1, h2, h3⟩ IH
 rw [lpB_eq]
 dsimp only at h1 h2 h3 ⊢
 by_cases h : i < j
 ·obtain ⟨m, hmm⟩ : ∃ m, m = (i + j) / 2 := ⟨_, rfl⟩
  have e2 : ((i : Int) + j) / 2 = (m : Int) := by omega
  have hm : m < l.length := by omega
  by_cases hx : l[m] < x
  ·have hp : m < p := by
    rcases Nat.lt_or_ge m p with h | h
    ·exact h
    ·have := q3 _ h hm; omega
   simp (disch := omega) [if_pos, if_neg, iteK_pos, iteK_neg, h, Int.fdiv_eq_ediv_of_nonneg, e2, hm, CmpLess, hx, Fl.eW_get]
   exact IH (m + 1, j) _ _ ⟨by dsimp only; omega, by dsimp only; omega, by dsimp only; omega⟩ (by dsimp only; omega) (by simp)
  ·have hp : p ≤ m := by
    rcases Nat.lt_or_ge m p with h | h
    ·have := q2 _ h hm; omega
    ·exact h
   simp (disch := omega) [if_pos, if_neg, iteK_pos, iteK_neg, h, Int.fdiv_eq_ediv_of_nonneg, e2, hm, CmpLess, hx, Fl.eW_get]
   exact IH (i, m) _ _ ⟨by dsimp only; omega, by dsimp only; omega, by dsimp only; omega⟩ (by dsimp only; omega) (by simp)
 ·obtain rfl : i = p := by omega
  by_cases hi : i < l.length
  ·by_cases he : l[i] = x
   ·have hd : x ∈ l := by rw [← he]; exact List.getElem_mem hi
    simp (disch := omega) [if_pos, if_neg, iteK_pos, iteK_neg, h, hi, he, hd, SIsNaN, Fl.eW_get]
   ·have hd : ¬ x ∈ l := by
     intro hm
     obtain ⟨k, hk, rfl⟩ := List.getElem_of_mem hm
     rcases Nat.lt_or_ge k i with h4 | h4
     ·have := q2 k h4 hk; omega
     ·rcases Nat.lt_or_ge i k with h5 | h5
      ·have := hs i k h5 hk; have := q3 i (Nat.le_refl _) hi; omega
      ·obtain rfl : i = k := by omega
       exact he rfl
    simp (disch := omega) [if_pos, if_neg, iteK_pos, iteK_neg, h, hi, he, hd, SIsNaN, Fl.eW_get]
  ·have hd : ¬ x ∈ l := by
    intro hm
    obtain ⟨k, hk, rfl⟩ := List.getElem_of_mem hm
    have := q2 k (by omega) hk; omega
   simp (disch := omega) [if_pos, if_neg, iteK_pos, iteK_neg, h, hi, hd, SIsNaN]
abbrev pnV (p : Fl.PR) (need : Int) : V := .agg [.int .u32 p.b, .int .u32 p.e, .int .u32 p.f, ii need]
def ePN : Enc (Fl.PR × Int) where
 enc a := [.int .u32 a.1.b, .int .u32 a.1.e, .int .u32 a.1.f, ii a.2]
 k := 4
 pos := by omega
 len := fun _ => rfl
 canon := fun _ => by simp
 flat := fun _ => by simp
 ok := fun _ => by simp
@[simp] theorem ePN_k : ePN.k = 4 := rfl
@[simp] theorem ePN_enc (a) : ePN.enc a = [.int .u32 a.1.b, .int .u32 a.1.e, .int .u32 a.1.f, ii a.2] := rfl
@[simp] theorem take_ePN (l) (n : Nat) : (cat ePN l).take (n * 4) = cat ePN (l.take n) := cat_take ePN l n
section
variable (s : Fl.PRs) (ts : List (List Nat)) (nd ds : List Int)
theorem WProc (k : Nat) (hk : k < s.1.length) (hnd : nd.length = s.1.length) : pureV E (om E) 129 false [.agg [Fl.procsV s ts, lst Fl.eI nd], ii k] = some (pnV s.1[k] (nd[k]'(by omega))) := by
 apply pu_129
 have hP := Fl.ProcsProc s ts k hk
 have hPc : V.canon (Fl.procsV s ts) = Fl.procsV s ts := by simp [Fl.canon_lsts]
 have hPf : V.flat (Fl.procsV s ts) = true := by simp
 have hPe : V.cell1 (Fl.procsV s ts) = true := by simp
 have hk2 : k < nd.length := by omega
 generalize Fl.procsV s ts = PV at *
 simp (disch := omega) [if_pos, if_neg, iteK_pos, iteK_neg, Tryz.f129, hP, hPc, hPf, hPe, hk2, Fl.eI_get]
theorem WProcs_body (hs : s.1.length ≤ 16384) (hnd : nd.length = s.1.length) : ∃ b0, bodyV E (om E) 74 [.agg [Fl.procsV s ts, lst Fl.eI nd]] [[]] = some (.sref 0 1 0 (s.1.zip nd).length (s.1.zip nd).length (4, false), [[b0, .row (cat ePN (s.1.zip nd)) (s.1.zip nd).length 4 true true]]) := by
 refine ⟨.row [Fl.procsV s ts, lst Fl.eI nd] 0 2 true false, ?_⟩
 apply bo_74
 have hC := Fl.ProcsCount s ts hs
 have hPc : V.canon (Fl.procsV s ts) = Fl.procsV s ts := by simp [Fl.canon_lsts]
 have hPf : V.flat (Fl.procsV s ts) = true := by simp
 have hPe : V.cell1 (Fl.procsV s ts) = true := by simp
 have hPp : V.plain (Fl.procsV s ts) = false := by simp
 have hPs : ∀ k H, V.settle k H (Fl.procsV s ts) = Fl.procsV s ts := fun k H => by simp
 have hW := fun k hk => WProc s ts nd k hk hnd
 generalize Fl.procsV s ts = PV at *
 have hz : (s.1.zip nd).length = s.1.length := by simp; omega
 simp (disch := omega) [if_pos, if_neg, iteK_pos, iteK_neg, Tryz.f74, hC, hPc, hPf, hPe]
 refine loop_chg (dyn := []) (fun n : Nat => [(3, .sref 0 1 0 n n (4, false)), (8, ii n)]) (fun _ => []) (fun n => [.row (cat ePN ((s.1.zip nd).take n)) n 4 true true]) (fun n => n ≤ s.1.length) (fun n => s.1.length - n) hint_74_0 (by kernel_rfl) ?_ 0 (by simp) (by simp)
 intro n hn IH
 rw [lpB_eq]
 by_cases h : n < s.1.length
 ·simp (disch := omega) [if_pos, if_neg, iteK_pos, iteK_neg, h, hW, hPc, hPf, hPe, hPs]
  refine IH (n + 1) _ _ (by omega) (by omega) ?_
  rw [take_snoc (by omega), cat_append]
  simp [cat_cons, List.take_take]
 ·obtain rfl : n = s.1.length := by omega
  simp (disch := omega) [if_pos, if_neg, iteK_pos, iteK_neg]
  rw [← hz, List.take_length]
theorem WProcOf (lent) (i : Nat) (hi : i < s.2.length) (hi' : i < 4294967296) (hk : s.2[i] < s.1.length) (hnd : nd.length = s.1.length) :
  pureV E (om E) 77 lent [.agg [Fl.procsV s ts, lst Fl.eI nd], .int .u32 i] = some (.tuple [pnV s.1[s.2[i]] (nd[s.2[i]]'(by omega)), bb true]) := by
 apply pu_77
 have hO := Fl.ProcsOf s ts i hi hi'
 have hPc : V.canon (Fl.procsV s ts) = Fl.procsV s ts := by simp [Fl.canon_lsts]
 have hPf : V.flat (Fl.procsV s ts) = true := by simp
 have hPe : V.cell1 (Fl.procsV s ts) = true := by simp
 have hW := WProc s ts nd _ hk hnd
 generalize Fl.procsV s ts = PV at *
 simp (disch := omega) [if_pos, if_neg, iteK_pos, iteK_neg, Tryz.f77, hO, hPc, hPf, hPe, hW]
theorem WBegins (lent) (i : Nat) (hi : i < 4294967296) (ho : ∀ p ∈ s.2, p < s.1.length) : pureV E (om E) 78 lent [.agg [Fl.procsV s ts, lst Fl.eI nd], .int .u32 i] = some (bb (Fl.beginsF s i)) := by
 apply pu_78
 have hB := fun lent => Fl.ProcsBegins lent s ts i hi ho
 have hPc : V.canon (Fl.procsV s ts) = Fl.procsV s ts := by simp [Fl.canon_lsts]
 have hPf : V.flat (Fl.procsV s ts) = true := by simp
 have hPe : V.cell1 (Fl.procsV s ts) = true := by simp
 generalize Fl.procsV s ts = PV at *
 simp (disch := omega) [if_pos, if_neg, iteK_pos, iteK_neg, Tryz.f78, hB, hPc, hPf, hPe]
theorem PLegal (lent) (i x : Nat) (hi : i < s.2.length) (hi' : i < 4294967296) (hk : s.2[i] < s.1.length) (ht : ts.length = s.1.length) (hr : Fl.Rising (ts[s.2[i]]'(by omega))) (hl : (ts[s.2[i]]'(by omega)).length ≤ 35184372087808) :
  pureV E (om E) 135 lent [Fl.procsV s ts, .int .u32 i, .int .u32 x] = some (bb (decide (x ∈ ts[s.2[i]]'(by omega)))) := by
 apply pu_135
 have hO := Fl.ProcsOf s ts i hi hi'
 obtain ⟨p, hB⟩ := BSearch _ hl hr x
 have hk2 : s.2[i] < ts.length := by omega
 simp (disch := omega) [if_pos, if_neg, iteK_pos, iteK_neg, Tryz.f135, hO, hB, Fl.canon_lsts, hk2]
theorem WLegal (lent) (i x : Nat) (hi : i < s.2.length) (hi' : i < 4294967296) (hk : s.2[i] < s.1.length) (ht : ts.length = s.1.length) (hr : Fl.Rising (ts[s.2[i]]'(by omega))) (hl : (ts[s.2[i]]'(by omega)).length ≤ 35184372087808) :
  pureV E (om E) 79 lent [.agg [Fl.procsV s ts, lst Fl.eI nd], .int .u32 i, .int .u32 x] = some (bb (decide (x ∈ ts[s.2[i]]'(by omega)))) := by
 apply pu_79
 have hL := fun lent => PLegal s ts lent i x hi hi' hk ht hr hl
 have hPc : V.canon (Fl.procsV s ts) = Fl.procsV s ts := by simp [Fl.canon_lsts]
 have hPf : V.flat (Fl.procsV s ts) = true := by simp
 have hPe : V.cell1 (Fl.procsV s ts) = true := by simp
 generalize Fl.procsV s ts = PV at *
 simp (disch := omega) [if_pos, if_neg, iteK_pos, iteK_neg, Tryz.f79, hL, hPc, hPf, hPe]
end
def depF (ds : List Int) (i : Nat) : Int := ds.getD i (-1)
theorem DDepth (lent) (code : List Instr) (ds : List Int) (hl : ds.length ≤ 16384) (i : Nat) (hi : i < 4294967296) : pureV E (om E) 73 lent [.agg [lst eInstr code, lst Fl.eI ds], .int .u32 i] = some (ii (depF ds i)) := by
 apply pu_73
 unfold depF
 by_cases h : i < ds.length
 ·rw [Fl.getD_lt h]
  simp (disch := omega) [if_pos, if_neg, iteK_pos, iteK_neg, Tryz.f73, h, Fl.eI_get]
 ·rw [Fl.getD_ge (by omega)]
  simp (disch := omega) [if_pos, if_neg, iteK_pos, iteK_neg, Tryz.f73, h]
def backF (code : List Instr) (ds : List Int) (i : Nat) : Bool := decide (0 < i ∧ 0 ≤ depF ds (i - 1) ∧ ∃ x, code[i - 1]? = some x ∧ x.op.toNat = 5)
theorem DBack (lent) (code : List Instr) (ds : List Int) (hc : code.length = ds.length) (hl : ds.length ≤ 16384) (i : Nat) (hi : i < 4294967296) : pureV E (om E) 80 lent [.agg [lst eInstr code, lst Fl.eI ds], .int .u32 i] = some (bb (backF code ds i)) := by
 apply pu_80
 unfold backF
 by_cases h0 : i = 0
 ·subst h0
  simp (disch := omega) [if_pos, if_neg, iteK_pos, iteK_neg, Tryz.f80]
 ·obtain ⟨j, rfl⟩ : ∃ j, i = j + 1 := ⟨i - 1, by omega⟩
  have hD := fun lent => DDepth lent code ds hl j (by omega)
  rw [Nat.add_sub_cancel]
  by_cases hd : 0 ≤ depF ds j
  ·have hj : j < ds.length := by
    rcases Nat.lt_or_ge j ds.length with h | h
    ·exact h
    ·unfold depF at hd; rw [Fl.getD_ge h] at hd; omega
   have hj2 : j < code.length := by omega
   by_cases hop : code[j].op.toNat = 5
   ·simp (disch := omega) [if_pos, if_neg, iteK_pos, iteK_neg, Tryz.f80, hD, hd, hj2, hop]
   ·have hop' : ¬ (code[j].op.toNat : Int) = 5 := by omega
    simp (disch := omega) [if_pos, if_neg, iteK_pos, iteK_neg, Tryz.f80, hD, hd, hj2, hop, hop']
  ·simp (disch := omega) [if_pos, if_neg, iteK_pos, iteK_neg, Tryz.f80, hD, hd]
end Go.Proofs.YthiciofacaeddaaGreat
end
section
namespace Go.Proofs.YthiciofacaeddaaGreat
open Go Go.Sim
set_option maxRecDepth 100000
set_option maxHeartbeats 0
set_option linter.unusedSimpArgs false
set_option linter.unusedVariables false

abbrev knownM (PV : V) (nd ds : List Int) (x : Img) (b dg : Nat) : List V := [PV, lst Fl.eI nd, lst eInstr x.code, lst Fl.eI ds, lst eInstr x.code, ws x.jumps, bs x.data, w32 x.zero.toNat, w32 x.stack.toNat, lst eExport x.names, ii b, w64 dg]
abbrev modM (PV : V) (nd ds : List Int) (x : Img) (b dg : Nat) : V := .pcon [.pcon (knownM PV nd ds x b dg) 0] 0
structure Solid (v : V) : Prop where
 canon : V.canon v = v
 flat : V.flat v = true
 cell : V.cell1 v = true
theorem Solid.settle {v : V} (h : Solid v) (k H) : V.settle k H v = v := settle_flat k H v h.flat
theorem procs_solid (s : Fl.PRs) (ts : List (List Nat)) : Solid (Fl.procsV s ts) := ⟨by simp [Fl.canon_lsts], by simp, by simp⟩
theorem eq_pconM (x y : Operand) (c : List V) (o : Nat) : binO E .eql 29 x y (.pcon c o) .nilptr = some (.bool false) := by
 show binV E .eql 29 (.pcon c o) .nilptr = some (.bool false)
 have h : E.P.underlying 29 = some (.pointer 122) := by kernel_rfl
 unfold binV
 simp [eqV, h]
theorem eq_pconK (x y : Operand) (c : List V) (o : Nat) : binO E .eql 98 x y (.pcon c o) .nilptr = some (.bool false) := by
 show binV E .eql 98 (.pcon c o) .nilptr = some (.bool false)
 have h : E.P.underlying 98 = some (.pointer 97) := by kernel_rfl
 unfold binV
 simp [eqV, h]
section
variable {PV : V} (hP : Solid PV) (nd ds : List Int) (x : Img) (b dg : Nat)
include hP
theorem MAll : pureV E (om E) 47 false [modM PV nd ds x b dg] = some (.pcon (knownM PV nd ds x b dg) 0) := by
 apply pu_47
 obtain ⟨h1, h2, h3⟩ := hP
 simp (disch := omega) [if_pos, if_neg, iteK_pos, iteK_neg, Tryz.f47, h1, h2, h3, eq_pconM, eq_pconK]
theorem MDepth (lent : Bool) (hl : ds.length ≤ 16384) (i : Nat) (hi : i < 4294967296) : pureV E (om E) 28 lent [modM PV nd ds x b dg, .int .u32 i] = some (ii (depF ds i)) := by
 have hA := MAll hP nd ds x b dg
 have hD := fun lent => DDepth lent x.code ds hl i hi
 apply pu_28
 obtain ⟨h1, h2, h3⟩ := hP
 simp (disch := omega) [if_pos, if_neg, iteK_pos, iteK_neg, Tryz.f28, h1, h2, h3, hA, hD]
theorem MBack (lent : Bool) (hc : x.code.length = ds.length) (hl : ds.length ≤ 16384) (i : Nat) (hi : i < 4294967296) : pureV E (om E) 45 lent [modM PV nd ds x b dg, .int .u32 i] = some (bb (backF x.code ds i)) := by
 have hA := MAll hP nd ds x b dg
 have hD := fun lent => DBack lent x.code ds hc hl i hi
 apply pu_45
 obtain ⟨h1, h2, h3⟩ := hP
 simp (disch := omega) [if_pos, if_neg, iteK_pos, iteK_neg, Tryz.f45, h1, h2, h3, hA, hD]
theorem MCount (lent : Bool) : pureV E (om E) 27 lent [modM PV nd ds x b dg] = some (ii x.code.length) := by
 have hA := MAll hP nd ds x b dg
 apply pu_27
 obtain ⟨h1, h2, h3⟩ := hP
 simp (disch := omega) [if_pos, if_neg, iteK_pos, iteK_neg, Tryz.f27, h1, h2, h3, hA]
theorem MBits (lent : Bool) : pureV E (om E) 31 lent [modM PV nd ds x b dg] = some (ii b) := by
 have hA := MAll hP nd ds x b dg
 apply pu_31
 obtain ⟨h1, h2, h3⟩ := hP
 simp (disch := omega) [if_pos, if_neg, iteK_pos, iteK_neg, Tryz.f31, h1, h2, h3, hA]
theorem MDigest (lent : Bool) : pureV E (om E) 34 lent [modM PV nd ds x b dg] = some (w64 dg) := by
 have hA := MAll hP nd ds x b dg
 apply pu_34
 obtain ⟨h1, h2, h3⟩ := hP
 simp (disch := omega) [if_pos, if_neg, iteK_pos, iteK_neg, Tryz.f34, h1, h2, h3, hA]
theorem MAt (lent : Bool) (hl : x.code.length ≤ 16384) (i : Nat) (hi : i < x.code.length) : pureV E (om E) 36 lent [modM PV nd ds x b dg, .int .u32 i] = some (.tuple [insV x.code[i], bb true]) := by
 have hA := MAll hP nd ds x b dg
 apply pu_36
 obtain ⟨h1, h2, h3⟩ := hP
 simp (disch := omega) [if_pos, if_neg, iteK_pos, iteK_neg, Tryz.f36, h1, h2, h3, hA, hi]
theorem MAt_no (lent : Bool) (hl : x.code.length ≤ 16384) (i : Nat) (hi' : i < 4294967296) (hi : ¬ i < x.code.length) : pureV E (om E) 36 lent [modM PV nd ds x b dg, .int .u32 i] = some (.tuple [insV ⟨0, 0⟩, bb false]) := by
 have hA := MAll hP nd ds x b dg
 apply pu_36
 obtain ⟨h1, h2, h3⟩ := hP
 simp (disch := omega) [if_pos, if_neg, iteK_pos, iteK_neg, Tryz.f36, h1, h2, h3, hA, hi]
theorem MImage_body (h1 : x.code.length ≤ 17592186044416) (h2 : x.jumps.length ≤ 35184372088832) (h3 : x.data.length ≤ 140737488355328) (h4 : x.names.length ≤ 5864062014805) : ∃ vc vj vd vn X, bodyV E (om E) 30 [modM PV nd ds x b dg] [[]] = some (.agg [vc, vj, vd, w32 x.zero.toNat, w32 x.stack.toNat, vn], [X]) ∧
  Own X vc eInstr x.code ∧ Own X vj eU32 x.jumps ∧ Own X vd eU8 x.data ∧ Own X vn eExport x.names := by
 have hA := MAll hP nd ds x b dg
 obtain ⟨vc, vj, vd, vn, X, hc, ho⟩ := copied_at x h1 h2 h3 h4 (a := imgV x) (B := [.row [.nilslice, .nilslice, .nilslice, .int .u32 0, .int .u32 0, .nilslice] 0 6 true true]) (r := []) (by simp) (by simp)
 have hX : ∀ b, Own (b :: X) vc eInstr x.code ∧ Own (b :: X) vj eU32 x.jumps ∧ Own (b :: X) vd eU8 x.data ∧ Own (b :: X) vn eExport x.names := fun b => by
  have := ho [b] [] rfl
  simp only [List.append_nil] at this
  exact this
 have ec := (hX .dead).1.cell; have ej := (hX .dead).2.1.cell; have ed := (hX .dead).2.2.1.cell; have en := (hX .dead).2.2.2.cell
 have pc : V.plain vc = false := by rcases (hX .dead).1 with ⟨_, rfl⟩ | ⟨j, ep, rfl, _⟩ <;> simp
 refine ⟨vc, vj, vd, vn, Blk.row [vc, vj, vd, w32 x.zero.toNat, w32 x.stack.toNat, vn] 0 6 (vc.flat && (vj.flat && (vd.flat && vn.flat))) false :: X, ?_, hX _⟩
 apply bo_30
 obtain ⟨h1, h2, h3⟩ := hP
 simp (disch := omega) [if_pos, if_neg, iteK_pos, iteK_neg, Tryz.f30, h1, h2, h3, hA, hc, ec, ej, ed, en, pc]
theorem MImage_at (h1 : x.code.length ≤ 17592186044416) (h2 : x.jumps.length ≤ 35184372088832) (h3 : x.data.length ≤ 140737488355328) (h4 : x.names.length ≤ 5864062014805) {a : V} {B : List Blk} {r : Heap} (hv : viewArgs (B :: r) [a] = some [modM PV nd ds x b dg]) :
  ∃ vc vj vd vn X, callV E (om E) 30 [a] (B :: r) = some (.agg [vc, vj, vd, w32 x.zero.toNat, w32 x.stack.toNat, vn], (B ++ X) :: r) ∧ (∀ B' Y, B'.length = B.length → Own (B' ++ (X ++ Y)) vc eInstr x.code ∧ Own (B' ++ (X ++ Y)) vj eU32 x.jumps ∧ Own (B' ++ (X ++ Y)) vd eU8 x.data ∧ Own (B' ++ (X ++ Y)) vn eExport x.names) := by
 obtain ⟨vc, vj, vd, vn, X, hb, o1, o2, o3, o4⟩ := MImage_body hP nd ds x b dg h1 h2 h3 h4
 have hown : V.own [X] (.agg [vc, vj, vd, w32 x.zero.toNat, w32 x.stack.toNat, vn]) = true := by
  have ow : ∀ {α : Type} {v : V} {e : Enc α} {l : List α}, Own X v e l → V.own [X] v = true := fun h => by
   rcases h with ⟨_, rfl⟩ | ⟨j, ep, rfl, h⟩
   ·simp
   ·simp [h]
  simp [ow o1, ow o2, ow o3, ow o4]
 refine ⟨V.out B.length vc, V.out B.length vj, V.out B.length vd, V.out B.length vn, X.map (outBlk B.length), ?_, fun B' Y hB => ?_⟩
 ·rw [call_30, hv]
  simp only [Option.bind_some, hb, hown]
  simp [Heap.top, Heap.setTop]
 ·have g1 := (o1.out B').more Y
  have g2 := (o2.out B').more Y
  have g3 := (o3.out B').more Y
  have g4 := (o4.out B').more Y
  rw [List.append_assoc, hB] at g1 g2 g3 g4
  exact ⟨g1, g2, g3, g4⟩
end
section
variable (s : Fl.PRs) (ts : List (List Nat)) (nd ds : List Int) (x : Img) (b dg : Nat)
theorem MProcs_at (hs : s.1.length ≤ 16384) (hnd : nd.length = s.1.length) {a : V} {B : List Blk} {r : Heap} (hv : viewArgs (B :: r) [a] = some [modM (Fl.procsV s ts) nd ds x b dg]) :
  ∃ v X, callV E (om E) 33 [a] (B :: r) = some (v, (B ++ X) :: r) ∧ ∀ B' Y, B'.length = B.length → Own (B' ++ (X ++ Y)) v ePN (s.1.zip nd) := by
 have hP := procs_solid s ts
 have hA := MAll hP nd ds x b dg
 obtain ⟨b0, hW⟩ := WProcs_body s ts nd hs hnd
 have hWc : callV E (om E) 74 [.agg [Fl.procsV s ts, lst Fl.eI nd]] [[]] = some (.sref 0 1 0 (s.1.zip nd).length (s.1.zip nd).length (4, false), [[outBlk 0 b0, .row (cat ePN (s.1.zip nd)) (s.1.zip nd).length 4 true true]]) := by
  rw [call_74]
  have hv0 : viewArgs [[]] [.agg [Fl.procsV s ts, lst Fl.eI nd]] = some [.agg [Fl.procsV s ts, lst Fl.eI nd]] := by simp [Fl.canon_lsts]
  rw [hv0]
  have hfl : V.flatL [.agg [Fl.procsV s ts, lst Fl.eI nd]] = true := by simp
  simp only [Option.bind_some, hW, hfl]
  simp [Heap.top, Heap.setTop]
 have hb : bodyV E (om E) 33 [modM (Fl.procsV s ts) nd ds x b dg] [[]] = some (.sref 0 1 0 (s.1.zip nd).length (s.1.zip nd).length (4, false), [[outBlk 0 b0, .row (cat ePN (s.1.zip nd)) (s.1.zip nd).length 4 true true]]) := by
  generalize Fl.procsV s ts = PV at *
  apply bo_33
  obtain ⟨h1, h2, h3⟩ := hP
  generalize s.1.zip nd = Z at *
  simp (disch := omega) [if_pos, if_neg, iteK_pos, iteK_neg, Tryz.f33, h1, h2, h3, hA, hWc]
 have ho : Own [outBlk 0 b0, .row (cat ePN (s.1.zip nd)) (s.1.zip nd).length 4 true true] (.sref 0 1 0 (s.1.zip nd).length (s.1.zip nd).length (4, false)) ePN (s.1.zip nd) := .inr ⟨1, _, rfl, rfl⟩
 refine ⟨.sref 0 (B.length + 1) 0 (s.1.zip nd).length (s.1.zip nd).length (4, false), [outBlk 0 b0, .row (cat ePN (s.1.zip nd)) (s.1.zip nd).length 4 true true].map (outBlk B.length), ?_, fun B' Y hB => ?_⟩
 ·rw [call_33, hv]
  generalize s.1.zip nd = Z at *
  simp only [Option.bind_some, hb]
  simp [Heap.top, Heap.setTop]
 ·have g1 := (ho.out B').more Y
  rw [List.append_assoc, hB] at g1
  simpa using g1
theorem MProcOf (lent : Bool) (i : Nat) (hi : i < s.2.length) (hi' : i < 4294967296) (hk : s.2[i] < s.1.length) (hnd : nd.length = s.1.length) : pureV E (om E) 38 lent [modM (Fl.procsV s ts) nd ds x b dg, .int .u32 i] = some (.tuple [pnV s.1[s.2[i]] (nd[s.2[i]]'(by omega)), bb true]) := by
 have hP := procs_solid s ts
 have hA := MAll hP nd ds x b dg
 have hW := fun lent => WProcOf s ts nd lent i hi hi' hk hnd
 generalize Fl.procsV s ts = PV at *
 apply pu_38
 obtain ⟨h1, h2, h3⟩ := hP
 simp (disch := omega) [if_pos, if_neg, iteK_pos, iteK_neg, Tryz.f38, h1, h2, h3, hA, hW]
theorem MBegins (lent : Bool) (i : Nat) (hi : i < 4294967296) (ho : ∀ p ∈ s.2, p < s.1.length) : pureV E (om E) 40 lent [modM (Fl.procsV s ts) nd ds x b dg, .int .u32 i] = some (bb (Fl.beginsF s i)) := by
 have hP := procs_solid s ts
 have hA := MAll hP nd ds x b dg
 have hW := fun lent => WBegins s ts nd lent i hi ho
 generalize Fl.procsV s ts = PV at *
 apply pu_40
 obtain ⟨h1, h2, h3⟩ := hP
 simp (disch := omega) [if_pos, if_neg, iteK_pos, iteK_neg, Tryz.f40, h1, h2, h3, hA, hW]
theorem MLegal (lent : Bool) (i t : Nat) (hi : i < s.2.length) (hi' : i < 4294967296) (hk : s.2[i] < s.1.length) (ht : ts.length = s.1.length) (hr : Fl.Rising (ts[s.2[i]]'(by omega))) (hl : (ts[s.2[i]]'(by omega)).length ≤ 35184372087808) :
  pureV E (om E) 43 lent [modM (Fl.procsV s ts) nd ds x b dg, .int .u32 i, .int .u32 t] = some (bb (decide (t ∈ ts[s.2[i]]'(by omega)))) := by
 have hP := procs_solid s ts
 have hA := MAll hP nd ds x b dg
 have hW := fun lent => WLegal s ts nd lent i t hi hi' hk ht hr hl
 generalize Fl.procsV s ts = PV at *
 apply pu_43
 obtain ⟨h1, h2, h3⟩ := hP
 simp (disch := omega) [if_pos, if_neg, iteK_pos, iteK_neg, Tryz.f43, h1, h2, h3, hA, hW]
end
end Go.Proofs.YthiciofacaeddaaGreat
end
section
namespace Go.Proofs.YthiciofacaeddaaGreat
open Go Go.Sim
set_option maxRecDepth 100000
set_option linter.unusedSimpArgs false
set_option linter.unusedVariables false

structure SoundAt (P : Fl.PR) (need : Int) (i : Nat) (op arg : Nat) (kd tk gv : Nat) (d : Int) (bk : Bool) (d1 da : Int) : Prop where
 lo : P.b ≤ i
 hi : i < P.e
 ent : op = 3 ↔ i = P.b
 kinds : 1 ≤ kd ∧ kd ≤ 8
 kent : kd = 6 ↔ op = 3
 kcall : kd = 5 ↔ op = 5
 last : i + 1 = P.e → kd = 3 ∨ kd = 4 ∨ kd = 7 ∨ kd = 8
 leave : kd = 7 → arg = P.f
 need0 : 0 ≤ need
 need64 : need ≤ 64
 goes : kd = 3 ∨ kd = 2 → P.b < arg ∧ arg < P.e
 low : -1 ≤ d
 back0 : d < 0 → bk = false
 back : 0 ≤ d → bk = decide (op = 5)
 takes : 0 ≤ d → (tk : Int) ≤ d
 most : 0 ≤ d → d ≤ need
 after : 0 ≤ d → d - tk + gv ≤ need
 leave1 : 0 ≤ d → kd = 7 → d = 1
 next : 0 ≤ d → kd ≠ 3 → kd ≠ 4 → kd ≠ 7 → kd ≠ 8 → P.b < i + 1 ∧ i + 1 < P.e ∧ d1 = d - tk + gv
 there : 0 ≤ d → kd = 3 ∨ kd = 2 → da = d - tk + gv
 small : tk ≤ 16 ∧ gv ≤ 16
noncomputable abbrev sF (x : Img) : Fl.PRs := Fl.cutF (cF x)
noncomputable abbrev dF (x : Img) : List Int := Fl.dsF (cF x) (jF x)
noncomputable abbrev nF (x : Img) : List Int := Fl.needF (cF x) (jF x)
structure TakenFacts (x : Img) : Prop where
 len : x.code.length ≤ 16384
 pos : 0 < x.code.length
 jlen : x.jumps.length ≤ 16384
 cut : Fl.CutOk (cF x) x.code.length (sF x)
 chain : Fl.Chain (sF x)
 inv : Fl.DInv (cF x) (sF x) (Fl.tgts (cF x) (jF x)) (sF x).1.length (dF x)
 dlen : (dF x).length = x.code.length
 nlen : (nF x).length = (sF x).1.length
 plen : (sF x).1.length ≤ 16384
theorem taken_facts {x : Img} (h : Taken x) : TakenFacts x := by
 obtain ⟨c1, c2, c3, c4, c5, c6, c7⟩ := check_ok h.chk
 have hl : (cF x).length = x.code.length := by simp [cF]
 have hcut : Fl.CutOk (cF x) (cF x).length (Fl.cutF (cF x)) := Fl.cut_ok h.find.first _
 have hI := Fl.ds_inv hcut (Fl.next_lt h.find) (Fl.cutF (cF x)).1.length (Nat.le_refl _) h.all
 have hp := (Fl.cutN_len (cF x) (cF x).length).2
 refine ⟨c1, by have := h.find.pos; omega, c3, by rw [hl] at hcut; exact hcut, Fl.cut_chain h.find.first _, hI, by rw [← hl]; exact hI.len, by simp [nF, Fl.needF, Fl.needN], ?_⟩
 show (Fl.cutN (cF x) (cF x).length).1.length ≤ 16384
 omega
end Go.Proofs.YthiciofacaeddaaGreat
end
