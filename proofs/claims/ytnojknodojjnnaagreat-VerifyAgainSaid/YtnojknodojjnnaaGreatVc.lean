/-
  The methods of a module.
  The laws' functions: lend.
  Plain: what a taken image's instructions are.
-/
import Derived.Test.YtnojknodojjnnaaGreatVb
section
namespace Go.Proofs.YtnojknodojjnnaaGreat
open Go Go.Sim
set_option maxRecDepth 100000
set_option maxHeartbeats 0
set_option linter.unusedSimpArgs false
set_option linter.unusedVariables false

abbrev knownM (PV : V) (nd ds : List Int) (x : Img) (b dg : Nat) : List V := [PV, lst Fl.eI nd, lst eInstr x.code, lst Fl.eI ds, lst eInstr x.code, ws x.jumps, bs x.data, w32 x.zero.toNat, w32 x.stack.toNat, lst eExport x.names, ii b, w64 dg]
abbrev modM (PV : V) (nd ds : List Int) (x : Img) (b dg : Nat) : V := .pcon [.pcon (knownM PV nd ds x b dg) 0] 0
/-- What the machine asks of a value that it does not look into. -/
structure Solid (v : V) : Prop where
  canon : V.canon v = v
  flat : V.flat v = true
  cell : V.cell1 v = true
theorem Solid.settle {v : V} (h : Solid v) (k H) : V.settle k H v = v := settle_flat k H v h.flat
theorem procs_solid (s : Fl.PRs) (ts : List (List Nat)) : Solid (Fl.procsV s ts) := ⟨by simp [Fl.canon_lsts], by simp, by simp⟩
theorem eq_pconM (x y : Operand) (c : List V) (o : Nat) : binO E .eql 29 x y (.pcon c o) .nilptr = some (.bool false) := by
  show binV E .eql 29 (.pcon c o) .nilptr = some (.bool false)
  have h : E.P.underlying 29 = some (.pointer 78) := by kernel_rfl
  unfold binV
  simp [eqV, h]
theorem eq_pconK (x y : Operand) (c : List V) (o : Nat) : binO E .eql 66 x y (.pcon c o) .nilptr = some (.bool false) := by
  show binV E .eql 66 (.pcon c o) .nilptr = some (.bool false)
  have h : E.P.underlying 66 = some (.pointer 72) := by kernel_rfl
  unfold binV
  simp [eqV, h]
section
variable {PV : V} (hP : Solid PV) (nd ds : List Int) (x : Img) (b dg : Nat)
include hP
theorem MAll : pureV E (om E) 30 false [modM PV nd ds x b dg] = some (.pcon (knownM PV nd ds x b dg) 0) := by
  apply pu_30
  obtain ⟨h1, h2, h3⟩ := hP
  simp (disch := omega) [if_pos, if_neg, iteK_pos, iteK_neg, Tryz.f30, h1, h2, h3, eq_pconM, eq_pconK]
theorem MDepth (lent : Bool) (hl : ds.length ≤ 16384) (i : Nat) (hi : i < 4294967296) : pureV E (om E) 9 lent [modM PV nd ds x b dg, .int .u32 i] = some (ii (depF ds i)) := by
  have hA := MAll hP nd ds x b dg
  have hD := fun lent => DDepth lent x.code ds hl i hi
  apply pu_9
  obtain ⟨h1, h2, h3⟩ := hP
  simp (disch := omega) [if_pos, if_neg, iteK_pos, iteK_neg, Tryz.f9, h1, h2, h3, hA, hD]
theorem MBack (lent : Bool) (hc : x.code.length = ds.length) (hl : ds.length ≤ 16384) (i : Nat) (hi : i < 4294967296) : pureV E (om E) 19 lent [modM PV nd ds x b dg, .int .u32 i] = some (bb (backF x.code ds i)) := by
  have hA := MAll hP nd ds x b dg
  have hD := fun lent => DBack lent x.code ds hc hl i hi
  apply pu_19
  obtain ⟨h1, h2, h3⟩ := hP
  simp (disch := omega) [if_pos, if_neg, iteK_pos, iteK_neg, Tryz.f19, h1, h2, h3, hA, hD]
theorem MCount (lent : Bool) : pureV E (om E) 10 lent [modM PV nd ds x b dg] = some (ii x.code.length) := by
  have hA := MAll hP nd ds x b dg
  apply pu_10
  obtain ⟨h1, h2, h3⟩ := hP
  simp (disch := omega) [if_pos, if_neg, iteK_pos, iteK_neg, Tryz.f10, h1, h2, h3, hA]
theorem MBits (lent : Bool) : pureV E (om E) 17 lent [modM PV nd ds x b dg] = some (ii b) := by
  have hA := MAll hP nd ds x b dg
  apply pu_17
  obtain ⟨h1, h2, h3⟩ := hP
  simp (disch := omega) [if_pos, if_neg, iteK_pos, iteK_neg, Tryz.f17, h1, h2, h3, hA]
theorem MDigest (lent : Bool) : pureV E (om E) 16 lent [modM PV nd ds x b dg] = some (w64 dg) := by
  have hA := MAll hP nd ds x b dg
  apply pu_16
  obtain ⟨h1, h2, h3⟩ := hP
  simp (disch := omega) [if_pos, if_neg, iteK_pos, iteK_neg, Tryz.f16, h1, h2, h3, hA]
theorem MAt (lent : Bool) (hl : x.code.length ≤ 16384) (i : Nat) (hi : i < x.code.length) : pureV E (om E) 18 lent [modM PV nd ds x b dg, .int .u32 i] = some (.tuple [insV x.code[i], bb true]) := by
  have hA := MAll hP nd ds x b dg
  apply pu_18
  obtain ⟨h1, h2, h3⟩ := hP
  simp (disch := omega) [if_pos, if_neg, iteK_pos, iteK_neg, Tryz.f18, h1, h2, h3, hA, hi]
theorem MImage (h1 : x.code.length ≤ 17592186044416) (h2 : x.jumps.length ≤ 35184372088832) (h3 : x.data.length ≤ 140737488355328) (h4 : x.names.length ≤ 5864062014805) : pureV E (om E) 15 false [modM PV nd ds x b dg] = some (imgV x) := by
  have hA := MAll hP nd ds x b dg
  have hC := VCopied x h1 h2 h3 h4
  apply pu_15
  obtain ⟨h1, h2, h3⟩ := hP
  simp (disch := omega) [if_pos, if_neg, iteK_pos, iteK_neg, Tryz.f15, h1, h2, h3, hA, hC]
end
section
variable (s : Fl.PRs) (ts : List (List Nat)) (nd ds : List Int) (x : Img) (b dg : Nat)
theorem MProcs (hs : s.1.length ≤ 16384) (hnd : nd.length = s.1.length) : pureV E (om E) 8 false [modM (Fl.procsV s ts) nd ds x b dg] = some (lst ePN (s.1.zip nd)) := by
  have hP := procs_solid s ts
  have hA := MAll hP nd ds x b dg
  have hW := WProcs s ts nd hs hnd
  generalize Fl.procsV s ts = PV at *
  apply pu_8
  obtain ⟨h1, h2, h3⟩ := hP
  simp (disch := omega) [if_pos, if_neg, iteK_pos, iteK_neg, Tryz.f8, h1, h2, h3, hA, hW]
theorem MProcOf (lent : Bool) (i : Nat) (hi : i < s.2.length) (hi' : i < 4294967296) (hk : s.2[i] < s.1.length) (hnd : nd.length = s.1.length) : pureV E (om E) 33 lent [modM (Fl.procsV s ts) nd ds x b dg, .int .u32 i] = some (.tuple [pnV s.1[s.2[i]] (nd[s.2[i]]'(by omega)), bb true]) := by
  have hP := procs_solid s ts
  have hA := MAll hP nd ds x b dg
  have hW := fun lent => WProcOf s ts nd lent i hi hi' hk hnd
  generalize Fl.procsV s ts = PV at *
  apply pu_33
  obtain ⟨h1, h2, h3⟩ := hP
  simp (disch := omega) [if_pos, if_neg, iteK_pos, iteK_neg, Tryz.f33, h1, h2, h3, hA, hW]
theorem MBegins (lent : Bool) (i : Nat) (hi : i < 4294967296) (ho : ∀ p ∈ s.2, p < s.1.length) : pureV E (om E) 35 lent [modM (Fl.procsV s ts) nd ds x b dg, .int .u32 i] = some (bb (Fl.beginsF s i)) := by
  have hP := procs_solid s ts
  have hA := MAll hP nd ds x b dg
  have hW := fun lent => WBegins s ts nd lent i hi ho
  generalize Fl.procsV s ts = PV at *
  apply pu_35
  obtain ⟨h1, h2, h3⟩ := hP
  simp (disch := omega) [if_pos, if_neg, iteK_pos, iteK_neg, Tryz.f35, h1, h2, h3, hA, hW]
theorem MLegal (lent : Bool) (i t : Nat) (hi : i < s.2.length) (hi' : i < 4294967296) (hk : s.2[i] < s.1.length) (ht : ts.length = s.1.length) (hr : Fl.Rising (ts[s.2[i]]'(by omega))) (hl : (ts[s.2[i]]'(by omega)).length ≤ 35184372087808) :
    pureV E (om E) 37 lent [modM (Fl.procsV s ts) nd ds x b dg, .int .u32 i, .int .u32 t] = some (bb (decide (t ∈ ts[s.2[i]]'(by omega)))) := by
  have hP := procs_solid s ts
  have hA := MAll hP nd ds x b dg
  have hW := fun lent => WLegal s ts nd lent i t hi hi' hk ht hr hl
  generalize Fl.procsV s ts = PV at *
  apply pu_37
  obtain ⟨h1, h2, h3⟩ := hP
  simp (disch := omega) [if_pos, if_neg, iteK_pos, iteK_neg, Tryz.f37, h1, h2, h3, hA, hW]
end
end Go.Proofs.YtnojknodojjnnaaGreat
end
section
namespace Go.Proofs.YtnojknodojjnnaaGreat
open Go Go.Sim
set_option maxRecDepth 100000
set_option maxHeartbeats 0
set_option linter.unusedSimpArgs false
set_option linter.unusedVariables false

def marksN (n : Nat) : List Export := (List.range n).map fun i => ⟨[109, 97, 114, 107], UInt32.ofNat i⟩
theorem marksN_succ (n : Nat) : marksN (n + 1) = marksN n ++ [⟨[109, 97, 114, 107], UInt32.ofNat n⟩] := by simp [marksN, List.range_succ]
@[simp] theorem marksN_len (n : Nat) : (marksN n).length = n := by simp [marksN]
theorem Lend (x : Img) (h1 : x.code.length ≤ 17592186043904) (h2 : x.jumps.length ≤ 35184372087808) (h3 : x.data.length ≤ 140737488351232) (h4 : x.names.length ≤ 5864062014634) : pureV E (om E) 6 false [imgV x] =
    some (.agg [lst eInstr x.code, ws x.jumps, bs x.data, w32 x.zero.toNat, w32 x.stack.toNat, lst eExport x.names, lst eInstr (x.code ++ marksC 64), ws (x.jumps ++ marksW 64), bs (x.data ++ marksB 64), lst eExport (x.names ++ marksN 64)]) := by
  apply pu_6
  have hC := LentCode false x.code h1
  have hW := LentWords false x.jumps h2
  have hB := LentBytes false x.data h3
  simp (disch := omega) [if_pos, if_neg, iteK_pos, iteK_neg, Tryz.f6, hC, hW, hB]
  refine loop_chg (dyn := []) (fun n : Nat => [(4, ii n)]) (fun n => [(0, 2, .row [.nilslice, .nilslice, .nilslice, .int .u32 0, .int .u32 0, .nilslice, lst eInstr (x.code ++ marksC 64), ws (x.jumps ++ marksW 64), bs (x.data ++ marksB 64), .sref 0 3 0 n n (2, false)] 0 10 false false)])
    (fun n => [.row (cat eExport (x.names.take n)) n 2 true true]) (fun n => n ≤ x.names.length) (fun n => x.names.length - n) hint_6_0 (by kernel_rfl) ?_ 0 (by simp) (by simp)
  intro n hn IH
  rw [lpB_eq]
  by_cases h : n < x.names.length
  · simp (disch := omega) [if_pos, if_neg, iteK_pos, iteK_neg, h]
    refine IH (n + 1) _ _ (by omega) (by omega) ?_
    rw [take_snoc h, cat_append]
    simp [cat_cons, List.take_take]
  · obtain rfl : n = x.names.length := by omega
    clear IH
    simp (disch := omega) [if_pos, if_neg, iteK_pos, iteK_neg]
    refine loop_chg (dyn := []) (fun n : Nat => [(5, ii n)]) (fun n => [(0, 2, .row [.nilslice, .nilslice, .nilslice, .int .u32 0, .int .u32 0, .nilslice, lst eInstr (x.code ++ marksC 64), ws (x.jumps ++ marksW 64), bs (x.data ++ marksB 64), .sref 0 3 0 (x.names.length + n) (x.names.length + n) (2, false)] 0 10 false false),
      (0, 3, .row (cat eExport (x.names ++ marksN n)) (x.names.length + n) 2 true true)])
      (fun n => []) (fun n => n ≤ 64) (fun n => 64 - n) hint_6_1 (by kernel_rfl) ?_ 0 (by simp) (by simp [marksN])
    intro n hn IH
    rw [lpB_eq]
    by_cases h : n < 64
    · have e : (UInt32.ofNat n).toNat = n := by rw [UInt32.toNat_ofNat']; omega
      simp (disch := omega) [if_pos, if_neg, iteK_pos, iteK_neg, h]
      refine IH (n + 1) _ _ (by omega) (by omega) ?_
      rw [marksN_succ, ← List.append_assoc, cat_append _ (x.names ++ marksN n)]
      simp [cat_cons, take_all, Nat.add_assoc, e]
    · obtain rfl : n = 64 := by omega
      simp (disch := omega) [if_pos, if_neg, iteK_pos, iteK_neg]
      refine ⟨?_, res_lst eExport (by simp) rfl⟩
      have hc : cutCells (cat eExport (x.names ++ marksN 64)) 0 x.names.length 2 = cat eExport x.names := by
        have hk : (cat eExport x.names).length = x.names.length * 2 := cat_length eExport x.names
        rw [cat_append]
        unfold cutCells
        rw [if_neg (by omega), List.drop_zero, ← hk, List.take_left]
      rw [hc]
      simp (disch := omega) [if_pos, if_neg, iteK_pos, iteK_neg]
end Go.Proofs.YtnojknodojjnnaaGreat
end
section
namespace Go.Proofs.YtnojknodojjnnaaGreat
open Go Go.Sim
set_option maxRecDepth 100000
set_option linter.unusedSimpArgs false
set_option linter.unusedVariables false

/-- What sound asks of an instruction and what a module tells of it. -/
structure SoundAt (P : Fl.PR) (need : Int) (i : Nat) (op arg : Nat) (kd tk gv : Nat) (d : Int) (bk : Bool) (d1 da : Int) : Prop where
  lo : P.b ≤ i
  hi : i < P.e
  ent : op = 3 ↔ i = P.b
  kinds : 1 ≤ kd ∧ kd ≤ 8
  kent : kd = 6 ↔ op = 3
  kcall : kd = 5 ↔ op = 5
  last : i + 1 = P.e → kd = 3 ∨ kd = 4 ∨ kd = 7 ∨ kd = 8
  leave : kd = 7 → arg = P.f
  need0 : 0 ≤ need
  need64 : need ≤ 64
  goes : kd = 3 ∨ kd = 2 → P.b < arg ∧ arg < P.e
  low : -1 ≤ d
  back0 : d < 0 → bk = false
  back : 0 ≤ d → bk = decide (op = 5)
  takes : 0 ≤ d → (tk : Int) ≤ d
  most : 0 ≤ d → d ≤ need
  after : 0 ≤ d → d - tk + gv ≤ need
  leave1 : 0 ≤ d → kd = 7 → d = 1
  next : 0 ≤ d → kd ≠ 3 → kd ≠ 4 → kd ≠ 7 → kd ≠ 8 → P.b < i + 1 ∧ i + 1 < P.e ∧ d1 = d - tk + gv
  there : 0 ≤ d → kd = 3 ∨ kd = 2 → da = d - tk + gv
  small : tk ≤ 16 ∧ gv ≤ 16
theorem kinds_tab : (List.range 60).all (fun op => decide (op = 0 ∨ ((1 ≤ Fl.kindF op ∧ Fl.kindF op ≤ 8) ∧ (Fl.kindF op = 6 ↔ op = 3) ∧ (Fl.kindF op = 5 ↔ op = 5) ∧ (Fl.kindF op = 4 ↔ op = 7) ∧ Fl.takesF op ≤ 16 ∧ Fl.givesF op ≤ 16))) = true := by decide
theorem kinds_of {op : Nat} (h : isOp op = true) : (1 ≤ Fl.kindF op ∧ Fl.kindF op ≤ 8) ∧ (Fl.kindF op = 6 ↔ op = 3) ∧ (Fl.kindF op = 5 ↔ op = 5) ∧ (Fl.kindF op = 4 ↔ op = 7) ∧ Fl.takesF op ≤ 16 ∧ Fl.givesF op ≤ 16 := by
  simp only [isOp, decide_eq_true_eq] at h
  have := List.all_eq_true.mp kinds_tab op (List.mem_range.mpr (by omega))
  simp only [decide_eq_true_eq] at this
  rcases this with h0 | h0
  · omega
  · exact h0
theorem isOp_of {i : Instr} (h : insBad i = 0) : isOp i.op.toNat = true := by
  unfold insBad at h
  by_cases hc : isOp i.op.toNat = true
  · exact hc
  · rw [if_neg hc] at h; omega
/-- The parts of a taken image. -/
noncomputable abbrev sF (x : Img) : Fl.PRs := Fl.cutF (cF x)
noncomputable abbrev dF (x : Img) : List Int := Fl.dsF (cF x) (jF x)
noncomputable abbrev nF (x : Img) : List Int := Fl.needF (cF x) (jF x)
structure TakenFacts (x : Img) : Prop where
  len : x.code.length ≤ 16384
  pos : 0 < x.code.length
  jlen : x.jumps.length ≤ 16384
  cut : Fl.CutOk (cF x) x.code.length (sF x)
  chain : Fl.Chain (sF x)
  inv : Fl.DInv (cF x) (sF x) (Fl.tgts (cF x) (jF x)) (sF x).1.length (dF x)
  dlen : (dF x).length = x.code.length
  nlen : (nF x).length = (sF x).1.length
  plen : (sF x).1.length ≤ 16384
theorem taken_facts {x : Img} (h : Taken x) : TakenFacts x := by
  obtain ⟨c1, c2, c3, c4, c5, c6, c7⟩ := check_ok h.chk
  have hl : (cF x).length = x.code.length := by simp [cF]
  have hcut : Fl.CutOk (cF x) (cF x).length (Fl.cutF (cF x)) := Fl.cut_ok h.find.first _
  have hI := Fl.ds_inv hcut (Fl.next_lt h.find) (Fl.cutF (cF x)).1.length (Nat.le_refl _) h.all
  have hp := (Fl.cutN_len (cF x) (cF x).length).2
  refine ⟨c1, by have := h.find.pos; omega, c3, by rw [hl] at hcut; exact hcut, Fl.cut_chain h.find.first _, hI, by rw [← hl]; exact hI.len, by simp [nF, Fl.needF, Fl.needN], ?_⟩
  show (Fl.cutN (cF x) (cF x).length).1.length ≤ 16384
  omega
theorem depF_lt {ds : List Int} {i : Nat} (h : i < ds.length) : depF ds i = ds.getD i 0 := by unfold depF; rw [Fl.getD_lt h, Fl.getD_lt h]
theorem next_self {code : List Fl.Instr} {s : Fl.PRs} {ts : List (List Nat)} {i : Nat} (hk : Fl.kindF (code.getD i default).op = 1 ∨ Fl.kindF (code.getD i default).op = 2 ∨ Fl.kindF (code.getD i default).op = 5 ∨ Fl.kindF (code.getD i default).op = 6) : i + 1 ∈ Fl.nextF code s ts i := by
  unfold Fl.nextF
  dsimp only
  generalize Fl.kindF (code.getD i default).op = k at *
  rcases hk with rfl | rfl | rfl | rfl
  · simp
  · rw [if_neg (by omega), if_pos rfl]
    split
    · simp
    · rcases Nat.lt_or_ge (i + 1) (code.getD i default).arg with h | h
      · rw [Nat.min_eq_left (by omega)]; simp
      · rw [Nat.max_eq_left (by omega)]; simp
  · simp
  · simp
theorem next_arg {code : List Fl.Instr} {s : Fl.PRs} {ts : List (List Nat)} {i : Nat} (hk : Fl.kindF (code.getD i default).op = 3 ∨ Fl.kindF (code.getD i default).op = 2) : (code.getD i default).arg ∈ Fl.nextF code s ts i := by
  unfold Fl.nextF
  dsimp only
  generalize Fl.kindF (code.getD i default).op = k at *
  rcases hk with rfl | rfl
  · rw [if_neg (by omega), if_neg (by omega), if_pos rfl]; simp
  · rw [if_neg (by omega), if_pos rfl]
    split
    · rename_i h; rw [h]; simp
    · rcases Nat.lt_or_ge (i + 1) (code.getD i default).arg with h | h
      · rw [Nat.max_eq_right (by omega)]; simp
      · rw [Nat.min_eq_right (by omega)]; simp
theorem sound_at {x : Img} (h : Taken x) {i : Nat} (hi : i < x.code.length) :
    SoundAt (Fl.prOf (sF x) (Fl.ofI (sF x) i)) ((nF x).getD (Fl.ofI (sF x) i) 0) i x.code[i].op.toNat x.code[i].arg.toNat (Fl.kindF x.code[i].op.toNat) (Fl.takesF x.code[i].op.toNat) (Fl.givesF x.code[i].op.toNat)
      (depF (dF x) i) (backF x.code (dF x) (i + 1)) (depF (dF x) (i + 1)) (depF (dF x) x.code[i].arg.toNat) := by
  have F := taken_facts h
  have hlF : (cF x).length = x.code.length := by simp [cF]
  have hcode : (cF x).getD i default = fl x.code[i] := by rw [Fl.getD_lt (by omega)]; simp [cF]
  have hins := F.cut.ins i hi
  have hlt := F.cut.lt i hi
  have hpr := F.cut.pr _ hlt
  have hent := F.cut.ent i hi
  have hflt : Fl.faultF (Fl.prOf (sF x) (Fl.ofI (sF x) i)) i (fl x.code[i]) = 0 := by
    have := h.find.faults i (by omega)
    unfold Fl.faultAt at this
    rw [hcode] at this
    exact this
  have hk := kinds_of (isOp_of (code_all h.chk _ (List.getElem_mem hi)))
  have hnd : (nF x).getD (Fl.ofI (sF x) i) 0 = (Fl.walkN (cF x) (sF x) (Fl.tgts (cF x) (jF x)) (Fl.ofI (sF x) i)).need := by
    rw [Fl.getD_lt (by rw [F.nlen]; exact hlt)]
    simp [nF, Fl.needF, Fl.needN]
  have hneed := F.inv.need _ hlt
  have hdi : depF (dF x) i = (dF x).getD i 0 := depF_lt (by rw [F.dlen]; exact hi)
  have hlow : -1 ≤ (dF x).getD i 0 := by
    rw [Fl.getD_lt (by rw [F.dlen]; exact hi)]
    exact (F.inv.low _ (List.getElem_mem _)).1
  have hdn := F.inv.dn i (by omega) hlt
  have hnx := Fl.next_in h.find (i := i) (by omega)
  rw [← hnd] at hneed hdn
  rw [hdi]
  have hbk : backF x.code (dF x) (i + 1) = decide (0 ≤ (dF x).getD i 0 ∧ x.code[i].op.toNat = 5) := by
    unfold backF
    rw [Nat.add_sub_cancel, hdi]
    have : (∃ y, x.code[i]? = some y ∧ y.op.toNat = 5) ↔ x.code[i].op.toNat = 5 := by
      rw [List.getElem?_eq_getElem hi]; simp
    simp only [this]
    congr 1
    apply propext; constructor
    · rintro ⟨_, a, b⟩; exact ⟨a, b⟩
    · rintro ⟨a, b⟩; exact ⟨by omega, a, b⟩
  have hb3 : x.code[i].op.toNat = 3 ↔ i = (Fl.prOf (sF x) (Fl.ofI (sF x) i)).b := by
    constructor
    · intro h3
      exact (hent (by rw [hcode]; exact h3)).symm
    · intro hb
      have := hpr.2.2
      rw [← hb, hcode] at this
      exact this
  unfold Fl.faultF at hflt
  have hnext : 0 ≤ (dF x).getD i 0 → ∀ t ∈ Fl.nextF (cF x) (sF x) (Fl.tgts (cF x) (jF x)) i, (Fl.prOf (sF x) (Fl.ofI (sF x) i)).b < t ∧ t < (Fl.prOf (sF x) (Fl.ofI (sF x) i)).e ∧ depF (dF x) t = (dF x).getD i 0 - Fl.takesF x.code[i].op.toNat + Fl.givesF x.code[i].op.toNat := by
    intro h0 t ht
    obtain ⟨n1, n2, n3⟩ := hnx t ht
    have hd := (hdn h0).next t ht
    unfold Fl.leftF at hd
    rw [hcode] at hd
    have hi2 := F.cut.ins t (by omega)
    rw [show Fl.ofI (sF x) t = Fl.ofI (sF x) i from n2] at hi2
    exact ⟨n3, hi2.2, by rw [depF_lt (by rw [F.dlen]; omega)]; exact hd⟩
  have hdone := hdn
  generalize hPp : Fl.prOf (sF x) (Fl.ofI (sF x) i) = P at *
  generalize hneq : (nF x).getD (Fl.ofI (sF x) i) 0 = need at *
  refine ⟨hins.1, hins.2, hb3, hk.1, hk.2.1, hk.2.2.1, ?_, ?_, hneed.1, hneed.2, ?_, hlow, ?_, ?_, ?_, ?_, ?_, ?_, ?_, ?_, ⟨hk.2.2.2.2.1, hk.2.2.2.2.2⟩⟩
  · intro he
    have hop : (fl x.code[i]).op = x.code[i].op.toNat := rfl
    rw [hop] at hflt
    generalize Fl.kindF x.code[i].op.toNat = k at *
    by_cases h7 : k = 7
    · omega
    · have hE : Fl.endsF k = true := by
        cases hE : Fl.endsF k with
        | true => rfl
        | false =>
          rw [hE] at hflt
          rw [if_neg h7] at hflt
          split at hflt
          · omega
          · split at hflt
            · omega
            · rw [if_pos ⟨he, rfl⟩] at hflt; omega
      simp only [Fl.endsF, decide_eq_true_eq] at hE
      omega
  · intro h7
    have hop : (fl x.code[i]).op = x.code[i].op.toNat := rfl
    rw [hop, if_neg (by omega), if_pos h7] at hflt
    split at hflt
    · rename_i h; exact h
    · omega
  · intro h32
    have hop : (fl x.code[i]).op = x.code[i].op.toNat := rfl
    rw [hop, if_neg (by omega), if_neg (by omega)] at hflt
    by_cases hin : Fl.insideF P (fl x.code[i]).arg = true
    · simp only [Fl.insideF, decide_eq_true_eq] at hin; exact hin
    · have hin' : Fl.insideF P (fl x.code[i]).arg = false := by simpa using hin
      rw [if_pos ⟨h32, hin'⟩] at hflt; omega
  · intro h0
    rw [hbk]
    exact decide_eq_false fun hh => by omega
  · intro h0
    rw [hbk]
    congr 1
    exact propext ⟨And.right, fun hh => ⟨h0, hh⟩⟩
  · intro h0
    have := (hdn h0).takes
    rw [hcode] at this
    exact this
  · intro h0; exact (hdn h0).most
  · intro h0
    have := (hdn h0).left
    unfold Fl.leftF at this
    rw [hcode] at this
    exact this
  · intro h0 h7
    have := (hdn h0).leave
    rw [hcode] at this
    exact this h7
  · intro h0 k3 k4 k7 k8
    refine hnext h0 _ (next_self ?_)
    rw [hcode]
    show Fl.kindF x.code[i].op.toNat = 1 ∨ Fl.kindF x.code[i].op.toNat = 2 ∨ Fl.kindF x.code[i].op.toNat = 5 ∨ Fl.kindF x.code[i].op.toNat = 6
    omega
  · intro h0 h32
    have := hnext h0 _ (next_arg (by rw [hcode]; exact h32))
    rw [hcode] at this
    exact this.2.2
end Go.Proofs.YtnojknodojjnnaaGreat
end
