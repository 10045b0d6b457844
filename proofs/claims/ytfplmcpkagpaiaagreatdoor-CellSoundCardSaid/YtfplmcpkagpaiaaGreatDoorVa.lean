/-
 Package verify: the image of flow's code.
 verify.Take.
 The methods of a module.
-/
import Derived.Test.YtfplmcpkagpaiaaGreatDoorId
import Derived.Test.YtfplmcpkagpaiaaGreatDoorIc
import Derived.Test.YtfplmcpkagpaiaaGreatDoorGe
set_option maxRecDepth 100000
set_option maxHeartbeats 0
set_option linter.unusedSimpArgs false
set_option linter.unusedVariables false
section
namespace Go.Proofs.YtfplmcpkagpaiaaGreatDoor
open Go Go.Sim
def fl (i : Instr) : Fl.Instr := ⟨i.op.toNat, i.arg.toNat⟩
theorem lst_fl (l : List Instr) : lst eInstr l = lst Fl.eInstr (l.map fl) := by
 have : cat eInstr l = cat Fl.eInstr (l.map fl) := by
  induction l with
  | nil => rfl
  | cons x l ih => rw [List.map_cons, cat_cons, cat_cons, ih]; rfl
 unfold lst
 rw [this, List.length_map]
theorem ws_fl (l : List UInt32) : ws l = lst Fl.eW (l.map UInt32.toNat) := by
 have : cat eU32 l = cat Fl.eW (l.map UInt32.toNat) := by
  induction l with
  | nil => rfl
  | cons x l ih => rw [List.map_cons, cat_cons, cat_cons, ih]; rfl
 show lst eU32 l = _
 unfold lst
 rw [this, List.length_map]
theorem isOp_fl (n : Nat) : Fl.isOp n = isOp n := rfl
theorem rowOf_fl (n : Nat) : (Fl.rowOf n).word = (rowOf n).word ∧ (Fl.rowOf n).most = (rowOf n).most := by
 unfold Fl.rowOf rowOf
 rw [isOp_fl]
 cases isOp n with
 | false => exact ⟨rfl, rfl⟩
 | true =>
  rw [if_pos rfl, if_pos rfl]
  generalize pureV E (ev E 60) 34 false [.int .u8 n] = o
  unfold Fl.rowFrom rowFrom
  split <;> simp_all
theorem insBad_fl (i : Instr) : Fl.insBad (fl i) = insBad i := by
 unfold Fl.insBad insBad
 rw [isOp_fl, ← Fl.most_eq, (rowOf_fl _).2]
 rfl
theorem VClones (x : Img) : (∀ h, cloneWL 17592186044416 2 [lst eInstr x.code] h = if 17592186044416 < x.code.length then none else if x.code = [] then some (.scon [] 0 0 false, h) else some (.sref 0 (h.top.length + 1) 0 x.code.length 0 (2, false), (Go.Sim.newRow (h.push (.row [] 0 2 true true)) (cat eInstr x.code) 2).2)) ∧
  (∀ h, cloneWL 35184372088832 1 [ws x.jumps] h = if 35184372088832 < x.jumps.length then none else if x.jumps = [] then some (.scon [] 0 0 false, h) else some (.sref 0 (h.top.length + 1) 0 x.jumps.length 0 (1, false), (Go.Sim.newRow (h.push (.row [] 0 1 true true)) (cat eU32 x.jumps) 1).2)) ∧
  (∀ h, cloneWL 140737488355328 1 [bs x.data] h = if 140737488355328 < x.data.length then none else if x.data = [] then some (.scon [] 0 0 false, h) else some (.sref 0 (h.top.length + 1) 0 x.data.length 0 (1, false), (Go.Sim.newRow (h.push (.row [] 0 1 true true)) (cat eU8 x.data) 1).2)) ∧
  (∀ h, cloneWL 5864062014805 2 [lst eExport x.names] h = if 5864062014805 < x.names.length then none else if x.names = [] then some (.scon [] 0 0 false, h) else some (.sref 0 (h.top.length + 1) 0 x.names.length 0 (2, false), (Go.Sim.newRow (h.push (.row [] 0 2 true true)) (cat eExport x.names) 2).2)) :=
 ⟨fun h => clone_lst eInstr x.code h 2 rfl, fun h => clone_lst eU32 x.jumps h 1 rfl, fun h => clone_lst eU8 x.data h 1 rfl, fun h => clone_lst eExport x.names h 2 rfl⟩
end Go.Proofs.YtfplmcpkagpaiaaGreatDoor
end
section
namespace Go.Proofs.YtfplmcpkagpaiaaGreatDoor
open Go Go.Sim
abbrev cF (x : Img) : List Fl.Instr := x.code.map fl
abbrev jF (x : Img) : List Nat := x.jumps.map UInt32.toNat
structure Taken (x : Img) : Prop where
 chk : checkP x = 0
 find : Fl.FindOk (cF x) (jF x)
 names : Fl.NamesAt (cF x) x.names
 all : Fl.AllOk (cF x) (jF x)
theorem fits_fl {x : Img} (h : checkP x = 0) : Fl.CodeFits (cF x) (jF x) := by
 obtain ⟨c1, c2, c3, c4, c5, c6, c7⟩ := check_ok h
 refine ⟨fun i hi => ?_, by simp [jF]; omega, fun t ht => ?_⟩
 ·obtain ⟨y, _, rfl⟩ := List.mem_map.1 hi
  exact ⟨y.op.toNat_lt, y.arg.toNat_lt⟩
 ·obtain ⟨y, _, rfl⟩ := List.mem_map.1 ht
  exact y.toNat_lt
theorem enc_fl {x : Img} (h : checkP x = 0) : Fl.encodes (cF x) := by
 obtain ⟨c1, c2, c3, c4, c5, c6, c7⟩ := check_ok h
 refine ⟨by simp [cF]; omega, fun i hi => ?_⟩
 obtain ⟨y, hy, rfl⟩ := List.mem_map.1 hi
 rw [insBad_fl]
 exact code_all h y hy
noncomputable def digestP (x : Img) : Nat := (adler (encP x)).toNat * 4294967296 + (encP x).length
noncomputable def bitsI (x : Img) : Nat := bitsP (x.data.length + x.zero.toNat + x.stack.toNat) 8
abbrev tsF (x : Img) : List (List Nat) := Fl.tgtN (Fl.cutF (cF x)) (jF x) (jF x).length
theorem enc_small {x : Img} (h : checkP x = 0) : 64 ≤ (encP x).length ∧ (encP x).length < 1048576 := by
 have s := sizes h
 obtain ⟨c1, c2, c3, c4, c5, c6, c7⟩ := check_ok h
 have hl := encF_len x
 have he : (encP x).length = (encF x).length := sealP_length _ (by omega)
 have h1 := s.a
 have h2 := s.b
 have h3 := s.c
 have h4 := s.d
 omega
noncomputable abbrev sF (x : Img) : Fl.PRs := Fl.cutF (cF x)
noncomputable abbrev dF (x : Img) : List Int := Fl.dsF (cF x) (jF x)
noncomputable abbrev nF (x : Img) : List Int := Fl.needF (cF x) (jF x)
structure TakenFacts (x : Img) : Prop where
 len : x.code.length ≤ 16384
 pos : 0 < x.code.length
 jlen : x.jumps.length ≤ 16384
 cut : Fl.CutOk (cF x) x.code.length (sF x)
 inv : Fl.DInv (cF x) (sF x) (Fl.tgts (cF x) (jF x)) (sF x).1.length (dF x)
 dlen : (dF x).length = x.code.length
 nlen : (nF x).length = (sF x).1.length
 plen : (sF x).1.length ≤ 16384
theorem taken_facts {x : Img} (h : Taken x) : TakenFacts x := by
 obtain ⟨c1, c2, c3, c4, c5, c6, c7⟩ := check_ok h.chk
 have hl : (cF x).length = x.code.length := by simp [cF]
 have hcut : Fl.CutOk (cF x) (cF x).length (Fl.cutF (cF x)) := Fl.cut_ok h.find.first _
 have hI := Fl.ds_inv hcut (Fl.next_lt h.find) (Fl.cutF (cF x)).1.length (Nat.le_refl _) h.all
 have hp := (Fl.cutN_len (cF x) (cF x).length).2
 refine ⟨c1, by have := h.find.pos; omega, c3, by rw [hl] at hcut; exact hcut, hI, by rw [← hl]; exact hI.len, by simp [nF, Fl.needF, Fl.needN], ?_⟩
 show (Fl.cutN (cF x) (cF x).length).1.length ≤ 16384
 omega
abbrev knownM (PV : V) (nd ds : List Int) (x : Img) (b dg : Nat) : List V := [PV, lst Fl.eI nd, lst eInstr x.code, lst Fl.eI ds, lst eInstr x.code, ws x.jumps, bs x.data, w32 x.zero.toNat, w32 x.stack.toNat, lst eExport x.names, ii b, w64 dg]
abbrev modM (PV : V) (nd ds : List Int) (x : Img) (b dg : Nat) : V := .pcon [.pcon (knownM PV nd ds x b dg) 0] 0
noncomputable abbrev modX (PV : V) (x : Img) : V := modM PV (nF x) (dF x) x (bitsI x) (digestP x)
def cv (n k len : Nat) : V := if len = 0 then .scon [] 0 0 false else .sref 0 (n + 1) 0 len 0 (k, false)
def cn (len : Nat) : Nat := if len = 0 then 0 else 2
def cr (k : Nat) (cells : List V) (len : Nat) : List Blk := if len = 0 then [] else [.row [] 0 k true true, .row cells 0 k true true]
theorem Copied1 (x : Img) (h1 : x.code.length ≤ 17592186044416) (h2 : x.jumps.length ≤ 35184372088832) (h3 : x.data.length ≤ 140737488355328) (h4 : x.names.length ≤ 5864062014805) (b : Blk) : ∃ R1 R2 : Blk,
  callV E (om E) 16 [imgV x] [[b]] = some (.agg [cv 3 2 x.code.length, cv (3 + cn x.code.length) 1 x.jumps.length, cv (3 + cn x.code.length + cn x.jumps.length) 1 x.data.length, w32 x.zero.toNat, w32 x.stack.toNat, cv (3 + cn x.code.length + cn x.jumps.length + cn x.data.length) 2 x.names.length],
   [b :: R1 :: R2 :: (cr 2 (cat eInstr x.code) x.code.length ++ cr 1 (cat eU32 x.jumps) x.jumps.length ++ cr 1 (cat eU8 x.data) x.data.length ++ cr 2 (cat eExport x.names) x.names.length)]) := by
 obtain ⟨k1, k2, k3, k4⟩ := VClones x
 have n1 : ¬ 17592186044416 < x.code.length := by omega
 have n2 : ¬ 35184372088832 < x.jumps.length := by omega
 have n3 : ¬ 140737488355328 < x.data.length := by omega
 have n4 : ¬ 5864062014805 < x.names.length := by omega
 rw [call_16]
 by_cases c1 : x.code = [] <;> by_cases c2 : x.jumps = [] <;> by_cases c3 : x.data = [] <;> by_cases c4 : x.names = [] <;>
  (apply Exists.intro; apply Exists.intro; apply bo_16
   simp (disch := omega) [if_pos, if_neg, iteK_pos, iteK_neg, Tryz.f16, k1, k2, k3, k4, n1, n2, n3, n4, c1, c2, c3, c4, cv, cn, cr]
   first | exact ⟨rfl, rfl⟩ | rfl)
end Go.Proofs.YtfplmcpkagpaiaaGreatDoor
end
section
namespace Go.Proofs.YtfplmcpkagpaiaaGreatDoor
open Go Go.Sim
section
variable (s : Fl.PRs) (ts : List (List Nat)) (nd ds : List Int)
theorem WBegins (lent) (i : Nat) (hi : i < 4294967296) (ho : ∀ p ∈ s.2, p < s.1.length) : pureV E (om E) 74 lent [.agg [Fl.procsV s ts, lst Fl.eI nd], .int .u32 i] = some (bb (Fl.beginsF s i)) := by
 apply pu_74
 have hB := fun lent => Fl.ProcsBegins lent s ts i hi ho
 have hPc : V.canon (Fl.procsV s ts) = Fl.procsV s ts := by simp [Fl.canon_lsts]
 have hPf : V.flat (Fl.procsV s ts) = true := by simp
 have hPe : V.cell1 (Fl.procsV s ts) = true := by simp
 generalize Fl.procsV s ts = PV at *
 simp (disch := omega) [if_pos, if_neg, iteK_pos, iteK_neg, Tryz.f74, hB, hPc, hPf, hPe]
end
def depF (ds : List Int) (i : Nat) : Int := ds.getD i (-1)
theorem DDepth (lent) (code : List Instr) (ds : List Int) (hl : ds.length ≤ 16384) (i : Nat) (hi : i < 4294967296) : pureV E (om E) 102 lent [.agg [lst eInstr code, lst Fl.eI ds], .int .u32 i] = some (ii (depF ds i)) := by
 apply pu_102
 unfold depF
 by_cases h : i < ds.length
 ·rw [Fl.getD_lt h]
  simp (disch := omega) [if_pos, if_neg, iteK_pos, iteK_neg, Tryz.f102, h, Fl.eI_get]
 ·rw [Fl.getD_ge (by omega)]
  simp (disch := omega) [if_pos, if_neg, iteK_pos, iteK_neg, Tryz.f102, h]
def backF (code : List Instr) (ds : List Int) (i : Nat) : Bool := decide (0 < i ∧ 0 ≤ depF ds (i - 1) ∧ ∃ x, code[i - 1]? = some x ∧ x.op.toNat = 5)
theorem DBack (lent) (code : List Instr) (ds : List Int) (hc : code.length = ds.length) (hl : ds.length ≤ 16384) (i : Nat) (hi : i < 4294967296) : pureV E (om E) 73 lent [.agg [lst eInstr code, lst Fl.eI ds], .int .u32 i] = some (bb (backF code ds i)) := by
 apply pu_73
 unfold backF
 by_cases h0 : i = 0
 ·subst h0
  simp (disch := omega) [if_pos, if_neg, iteK_pos, iteK_neg, Tryz.f73]
 ·obtain ⟨j, rfl⟩ : ∃ j, i = j + 1 := ⟨i - 1, by omega⟩
  have hD := fun lent => DDepth lent code ds hl j (by omega)
  rw [Nat.add_sub_cancel]
  by_cases hd : 0 ≤ depF ds j
  ·have hj : j < ds.length := by
    rcases Nat.lt_or_ge j ds.length with h | h
    ·exact h
    ·unfold depF at hd; rw [Fl.getD_ge h] at hd; omega
   have hj2 : j < code.length := by omega
   by_cases hop : code[j].op.toNat = 5
   ·simp (disch := omega) [if_pos, if_neg, iteK_pos, iteK_neg, Tryz.f73, hD, hd, hj2, hop]
   ·have hop' : ¬ (code[j].op.toNat : Int) = 5 := by omega
    simp (disch := omega) [if_pos, if_neg, iteK_pos, iteK_neg, Tryz.f73, hD, hd, hj2, hop, hop']
  ·simp (disch := omega) [if_pos, if_neg, iteK_pos, iteK_neg, Tryz.f73, hD, hd]
structure Solid (v : V) : Prop where
 canon : V.canon v = v
 flat : V.flat v = true
 cell : V.cell1 v = true
theorem Solid.settle {v : V} (h : Solid v) (k H) : V.settle k H v = v := settle_flat k H v h.flat
theorem procs_solid (s : Fl.PRs) (ts : List (List Nat)) : Solid (Fl.procsV s ts) := ⟨by simp [Fl.canon_lsts], by simp, by simp⟩
theorem eq_pconM (x y : Operand) (c : List V) (o : Nat) : binO E .eql 33 x y (.pcon c o) .nilptr = some (.bool false) := by
 show binV E .eql 33 (.pcon c o) .nilptr = some (.bool false)
 have h : E.P.underlying 33 = some (.pointer 83) := by kernel_rfl
 unfold binV
 simp [eqV, h]
theorem eq_pconK (x y : Operand) (c : List V) (o : Nat) : binO E .eql 70 x y (.pcon c o) .nilptr = some (.bool false) := by
 show binV E .eql 70 (.pcon c o) .nilptr = some (.bool false)
 have h : E.P.underlying 70 = some (.pointer 76) := by kernel_rfl
 unfold binV
 simp [eqV, h]
section
variable {PV : V} (hP : Solid PV) (nd ds : List Int) (x : Img) (b dg : Nat)
include hP
theorem MAll : pureV E (om E) 27 false [modM PV nd ds x b dg] = some (.pcon (knownM PV nd ds x b dg) 0) := by
 apply pu_27
 obtain ⟨h1, h2, h3⟩ := hP
 simp (disch := omega) [if_pos, if_neg, iteK_pos, iteK_neg, Tryz.f27, h1, h2, h3, eq_pconM, eq_pconK]
theorem MBack (lent : Bool) (hc : x.code.length = ds.length) (hl : ds.length ≤ 16384) (i : Nat) (hi : i < 4294967296) : pureV E (om E) 36 lent [modM PV nd ds x b dg, .int .u32 i] = some (bb (backF x.code ds i)) := by
 have hA := MAll hP nd ds x b dg
 have hD := fun lent => DBack lent x.code ds hc hl i hi
 apply pu_36
 obtain ⟨h1, h2, h3⟩ := hP
 simp (disch := omega) [if_pos, if_neg, iteK_pos, iteK_neg, Tryz.f36, h1, h2, h3, hA, hD]
theorem MCount (lent : Bool) : pureV E (om E) 58 lent [modM PV nd ds x b dg] = some (ii x.code.length) := by
 have hA := MAll hP nd ds x b dg
 apply pu_58
 obtain ⟨h1, h2, h3⟩ := hP
 simp (disch := omega) [if_pos, if_neg, iteK_pos, iteK_neg, Tryz.f58, h1, h2, h3, hA]
theorem MImage (h1 : x.code.length ≤ 17592186044416) (h2 : x.jumps.length ≤ 35184372088832) (h3 : x.data.length ≤ 140737488355328) (h4 : x.names.length ≤ 5864062014805) : pureV E (om E) 23 false [modM PV nd ds x b dg] = some (imgV x) := by
 have hA := MAll hP nd ds x b dg
 have e1 : x.code.length = 0 → lst eInstr x.code = .scon [] 0 0 false := fun h => by rw [List.length_eq_zero_iff.1 h]; rfl
 have e2 : x.jumps.length = 0 → ws x.jumps = .scon [] 0 0 false := fun h => by rw [List.length_eq_zero_iff.1 h]; rfl
 have e3 : x.data.length = 0 → bs x.data = .scon [] 0 0 false := fun h => by rw [List.length_eq_zero_iff.1 h]; rfl
 have e4 : x.names.length = 0 → lst eExport x.names = .scon [] 0 0 false := fun h => by rw [List.length_eq_zero_iff.1 h]; rfl
 obtain ⟨R1, R2, hV⟩ := Copied1 x h1 h2 h3 h4 (.row [.nilslice, .nilslice, .nilslice, .int .u32 0, .int .u32 0, .nilslice] 0 6 true true)
 apply pu_23
 obtain ⟨h1, h2, h3⟩ := hP
 by_cases d1 : x.code.length = 0 <;> by_cases d2 : x.jumps.length = 0 <;> by_cases d3 : x.data.length = 0 <;> by_cases d4 : x.names.length = 0 <;>
 (simp only [cv, cn, cr] at hV
  first | simp only [if_pos d1] at hV | simp only [if_neg d1] at hV
  first | simp only [if_pos d2] at hV | simp only [if_neg d2] at hV
  first | simp only [if_pos d3] at hV | simp only [if_neg d3] at hV
  first | simp only [if_pos d4] at hV | simp only [if_neg d4] at hV
  simp only [modM, knownM, imgV] at hA hV ⊢
  try simp only [e1 d1] at hA hV ⊢
  try simp only [e2 d2] at hA hV ⊢
  try simp only [e3 d3] at hA hV ⊢
  try simp only [e4 d4] at hA hV ⊢
  simp (disch := omega) [if_pos, if_neg, iteK_pos, iteK_neg, Tryz.f23, h1, h2, h3, hA, hV])
end
section
variable (s : Fl.PRs) (ts : List (List Nat)) (nd ds : List Int) (x : Img) (b dg : Nat)
theorem MBegins (lent : Bool) (i : Nat) (hi : i < 4294967296) (ho : ∀ p ∈ s.2, p < s.1.length) : pureV E (om E) 37 lent [modM (Fl.procsV s ts) nd ds x b dg, .int .u32 i] = some (bb (Fl.beginsF s i)) := by
 have hP := procs_solid s ts
 have hA := MAll hP nd ds x b dg
 have hW := fun lent => WBegins s ts nd lent i hi ho
 generalize Fl.procsV s ts = PV at *
 apply pu_37
 obtain ⟨h1, h2, h3⟩ := hP
 simp (disch := omega) [if_pos, if_neg, iteK_pos, iteK_neg, Tryz.f37, h1, h2, h3, hA, hW]
end
end Go.Proofs.YtfplmcpkagpaiaaGreatDoor
end
