/-
  awake.
  The law VerifyTakes, walked.
  An image as an argument, by its contents, and how much it can weigh.
-/
import Derived.Test.YthiciofacaeddaaGreatLc
import Derived.Test.YthiciofacaeddaaGreatIf
import Derived.Test.YthiciofacaeddaaGreatIc
import Derived.Test.YthiciofacaeddaaGreatMe
section
namespace Go.Proofs.YthiciofacaeddaaGreat
open Go Go.Sim
set_option maxRecDepth 100000
set_option maxHeartbeats 0
set_option linter.unusedSimpArgs false
set_option linter.unusedVariables false

def sampleX : Img := ⟨[⟨3, 8⟩, ⟨8, 4⟩, ⟨5, 0⟩, ⟨4, 8⟩, ⟨3, 4⟩, ⟨8, 7⟩, ⟨4, 4⟩], [], [], 0, 64, [⟨[109, 97, 105, 110], 0⟩]⟩
def sampleY : Img := ⟨[⟨3, 8⟩, ⟨1, 0⟩, ⟨5, 0⟩, ⟨4, 8⟩, ⟨3, 4⟩, ⟨8, 7⟩, ⟨4, 4⟩], [], [], 0, 64, [⟨[109, 97, 105, 110], 0⟩]⟩
theorem insBad_of {i : Instr} (h : Fl.insBad (fl i) = 0) : insBad i = 0 := by rw [← insBad_fl]; exact h
theorem sampleX_chk : checkP sampleX = 0 := by
  have hc : codeFrom sampleX.code 0 = 0 := codeFrom_good fun i hi => insBad_of (by
    have : sampleX.code.all (fun i => decide (Fl.insBad (fl i) = 0)) = true := by decide
    simpa using List.all_eq_true.1 this i hi)
  have hn : namesFrom sampleX.names 0 = true := namesFrom_good fun j hj => by
    have : j = 0 := by simp [sampleX] at hj; omega
    subst this; decide
  unfold checkP
  rw [if_neg (by decide), hc]
  rw [if_neg (by decide), if_neg (by decide), if_neg (by decide), if_neg (by decide), if_neg (by decide), hn]
  rfl
theorem sampleX_find : Fl.FindOk (cF sampleX) (jF sampleX) := by
  refine ⟨enc_fl sampleX_chk, by decide, by decide, ?_, by intro i hi; simp [sampleX] at hi⟩
  have : (List.range 7).all (fun i => decide (Fl.faultAt (Fl.cutF (cF sampleX)) (cF sampleX) i = 0)) = true := by decide
  intro i hi
  simpa using List.all_eq_true.1 this i (List.mem_range.mpr hi)
theorem sampleX_names : Fl.NamesAt (cF sampleX) sampleX.names := by
  intro i hi
  have : i = 0 := by simp [sampleX] at hi; omega
  subst this
  exact (by decide : Fl.beginsF (Fl.cutF (cF sampleX)) 0 = true)
theorem sampleX_all : Fl.AllOk (cF sampleX) (jF sampleX) := by
  intro i hi
  have hn : (Fl.cutF (cF sampleX)).1.length = 2 := by rfl
  rw [hn] at hi
  have : i = 0 ∨ i = 1 := by omega
  rcases this with rfl | rfl
  · rfl
  · rfl
theorem sampleX_ok : Taken sampleX := ⟨sampleX_chk, sampleX_find, sampleX_names, sampleX_all⟩
theorem sampleX_ds : dF sampleX = [0, 0, 1, 1, 0, 0, 1] := by rfl
theorem sampleY_chk : checkP sampleY = 0 := by
  have hc : codeFrom sampleY.code 0 = 0 := codeFrom_good fun i hi => insBad_of (by
    have : sampleY.code.all (fun i => decide (Fl.insBad (fl i) = 0)) = true := by decide
    simpa using List.all_eq_true.1 this i hi)
  have hn : namesFrom sampleY.names 0 = true := namesFrom_good fun j hj => by
    have : j = 0 := by simp [sampleY] at hj; omega
    subst this; decide
  unfold checkP
  rw [if_neg (by decide), hc]
  rw [if_neg (by decide), if_neg (by decide), if_neg (by decide), if_neg (by decide), if_neg (by decide), hn]
  rfl
theorem sampleY_find : Fl.FindOk (cF sampleY) (jF sampleY) := by
  refine ⟨enc_fl sampleY_chk, by decide, by decide, ?_, by intro i hi; simp [sampleY] at hi⟩
  have : (List.range 7).all (fun i => decide (Fl.faultAt (Fl.cutF (cF sampleY)) (cF sampleY) i = 0)) = true := by decide
  intro i hi
  simpa using List.all_eq_true.1 this i (List.mem_range.mpr hi)
theorem sampleY_names : Fl.NamesAt (cF sampleY) sampleY.names := by
  intro i hi
  have : i = 0 := by simp [sampleY] at hi; omega
  subst this
  exact (by decide : Fl.beginsF (Fl.cutF (cF sampleY)) 0 = true)
theorem sampleY_take : TakeNo sampleY 2 140 := by
  have h1 : (Fl.walkN (cF sampleY) (Fl.cutF (cF sampleY)) (Fl.tgts (cF sampleY) (jF sampleY)) 0).at_ = 2 := by rfl
  have h2 : (Fl.walkN (cF sampleY) (Fl.cutF (cF sampleY)) (Fl.tgts (cF sampleY) (jF sampleY)) 0).e = 140 := by rfl
  exact Take_flow sampleY sampleY_chk sampleY_find sampleY_names 0 (by decide) (fun k hk => by omega) (by rw [h2]; omega) h1 h2
abbrev sampleB : List Blk := [.row [.sref 0 1 0 7 0 (2, true), .nilslice, .nilslice, .int .u32 0, .int .u32 64, .sref 0 2 0 1 0 (2, true)] 0 6 false false,
  .row [.int .u8 3, .int .u32 8, .int .u8 8, .int .u32 4, .int .u8 5, .int .u32 0, .int .u8 4, .int .u32 8, .int .u8 3, .int .u32 4, .int .u8 8, .int .u32 7, .int .u8 4, .int .u32 4] 0 2 true true,
  .row [.str [109, 97, 105, 110], .int .u32 0] 0 2 true true]
theorem Sample_body : bodyV E (om E) 26 [] [[]] = some (.agg [.sref 0 1 0 7 0 (2, true), .nilslice, .nilslice, .int .u32 0, .int .u32 64, .sref 0 2 0 1 0 (2, true)], [sampleB]) := by
  apply bo_26
  simp (config := {maxSteps := 3000000}) (disch := omega) [Tryz.f26]
abbrev sampleA (n : Nat) : V := .agg [.sref 0 (n + 1) 0 7 0 (2, true), .nilslice, .nilslice, .int .u32 0, .int .u32 64, .sref 0 (n + 2) 0 1 0 (2, true)]
theorem Awake : pureV E (om E) 8 false [] = some (bb true) := by
  have cutX : V.canonL (cutCells [.int .u8 3, .int .u32 8, .int .u8 8, .int .u32 4, .int .u8 5, .int .u32 0, .int .u8 4, .int .u32 8, .int .u8 3, .int .u32 4, .int .u8 8, .int .u32 7, .int .u8 4, .int .u32 4] 0 7 2) = [.int .u8 3, .int .u32 8, .int .u8 8, .int .u32 4, .int .u8 5, .int .u32 0, .int .u8 4, .int .u32 8, .int .u8 3, .int .u32 4, .int .u8 8, .int .u32 7, .int .u8 4, .int .u32 4] := by rfl
  have cutY : V.canonL (cutCells [.int .u8 3, .int .u32 8, .int .u8 1, .int .u32 0, .int .u8 5, .int .u32 0, .int .u8 4, .int .u32 8, .int .u8 3, .int .u32 4, .int .u8 8, .int .u32 7, .int .u8 4, .int .u32 4] 0 7 2) = [.int .u8 3, .int .u32 8, .int .u8 1, .int .u32 0, .int .u8 5, .int .u32 0, .int .u8 4, .int .u32 8, .int .u8 3, .int .u32 4, .int .u8 8, .int .u32 7, .int .u8 4, .int .u32 4] := by rfl
  have cutN : V.canonL (cutCells [.str [109, 97, 105, 110], .int .u32 0] 0 1 2) = [.str [109, 97, 105, 110], .int .u32 0] := by rfl
  have hX : imgV sampleX = .agg [.scon [.int .u8 3, .int .u32 8, .int .u8 8, .int .u32 4, .int .u8 5, .int .u32 0, .int .u8 4, .int .u32 8, .int .u8 3, .int .u32 4, .int .u8 8, .int .u32 7, .int .u8 4, .int .u32 4] 0 7 false,
    .scon [] 0 0 false, .scon [] 0 0 false, .int .u32 0, .int .u32 64, .scon [.str [109, 97, 105, 110], .int .u32 0] 0 1 false] := by rfl
  have hX' : imgV sampleY = .agg [.scon [.int .u8 3, .int .u32 8, .int .u8 1, .int .u32 0, .int .u8 5, .int .u32 0, .int .u8 4, .int .u32 8, .int .u8 3, .int .u32 4, .int .u8 8, .int .u32 7, .int .u8 4, .int .u32 4] 0 7 false,
    .scon [] 0 0 false, .scon [] 0 0 false, .int .u32 0, .int .u32 64, .scon [.str [109, 97, 105, 110], .int .u32 0] 0 1 false] := by rfl
  have hv1 : viewArgs [sampleB] [sampleA 0] = some [imgV sampleX] := by simp [hX, cutX, cutN]
  obtain ⟨j, X, hT, hV⟩ := Take_at sampleX sampleX_ok hv1
  have hV1 := hV sampleB [] [] rfl
  rw [List.append_nil] at hV1
  have hvm : ∀ vs us, viewArgs [sampleB ++ X] vs = some us → viewArgs [sampleB ++ X] (.pref 0 (sampleB.length + j) 0 0 :: vs) = some (modV sampleX :: us) := fun vs us h => by
    refine viewArgs_cons ?_ h
    have hf : V.flat (.pref 0 (sampleB.length + j) 0 0) = false := rfl
    simp only [viewArgs, hf, Bool.false_eq_true, if_false, hV1, Option.bind_some, canon_modU]
  have F := taken_facts sampleX_ok
  have hM := procs_solid (sF sampleX) (tsF sampleX)
  have hc := fun lent => MCount hM (nF sampleX) (dF sampleX) sampleX (bitsI sampleX) (digestP sampleX) lent
  have hd := fun lent => MDepth hM (nF sampleX) (dF sampleX) sampleX (bitsI sampleX) (digestP sampleX) lent (by have := F.dlen; have := F.len; omega) 3 (by omega)
  have hCo : callV E (om E) 27 [.pref 0 (sampleB.length + j) 0 0] [sampleB ++ X] = some (ii 7, [sampleB ++ X]) := by
    rw [call_27, hvm [] [] rfl]
    simp only [Option.bind_some]
    rw [mod_eq, hc]
    rfl
  have hDe : callV E (om E) 28 [.pref 0 (sampleB.length + j) 0 0, .int .u32 3] [sampleB ++ X] = some (ii 1, [sampleB ++ X]) := by
    rw [call_28, hvm [.int .u32 3] [.int .u32 3] (by simp)]
    simp only [Option.bind_some]
    rw [mod_eq]
    have e : pureV E (om E) 28 true [modM (Fl.procsV (sF sampleX) (tsF sampleX)) (nF sampleX) (dF sampleX) sampleX (bitsI sampleX) (digestP sampleX), .int .u32 3] = some (ii (depF (dF sampleX) 3)) := hd true
    have e2 : depF (dF sampleX) 3 = 1 := by rw [sampleX_ds]; rfl
    rw [e2] at e
    have e3 : (!V.flatL [.pref 0 (sampleB.length + j) 0 0, .int .u32 3]) = true := rfl
    rw [e3, e]
    rfl
  clear hv1 hV hV1 hvm hc hd
  apply pu_8
  obtain ⟨H, hH⟩ : ∃ H, sampleB = H := ⟨_, rfl⟩
  have hHl : H.length = 3 := by rw [← hH]; rfl
  rw [hH] at hT hCo hDe
  simp only [sampleA, Nat.zero_add] at hT
  unfold sampleB at hH
  simp (config := {maxSteps := 3000000}) (disch := omega) [Tryz.f8, call_26, Sample_body]
  rw [hH, hT]
  clear hT hH
  generalize hZ : H ++ X = Z at *
  have gz : ∀ (L : List Blk) (k : Nat), (Z ++ L)[Z.length + k]? = L[k]? := fun L k => by rw [List.getElem?_append_right (by omega), Nat.add_sub_cancel_left]
  simp (config := {maxSteps := 3000000}) (disch := omega) [call_26, Sample_body, hCo, hDe, gz, eq_prefM, eq_nilM, -call_27, -call_28, -view_pref]
  obtain ⟨Y, hY⟩ := sampleY_take (.agg [.sref 0 (Z.length + 1) 0 7 0 (2, true), .nilslice, .nilslice, .int .u32 0, .int .u32 64, .sref 0 (Z.length + 2) 0 1 0 (2, true)]) (Z ++ [Blk.row [.sref 0 (Z.length + 1) 0 7 0 (2, true), .nilslice, .nilslice, .int .u32 0, .int .u32 64, .sref 0 (Z.length + 2) 0 1 0 (2, true)] 0 6 false false,
    .row [.int .u8 3, .int .u32 8, .int .u8 1, .int .u32 0, .int .u8 5, .int .u32 0, .int .u8 4, .int .u32 8, .int .u8 3, .int .u32 4, .int .u8 8, .int .u32 7, .int .u8 4, .int .u32 4] 0 2 true true,
    .row [.str [109, 97, 105, 110], .int .u32 0] 0 2 true true,
    .row [.sref 0 (Z.length + 1) 0 7 0 (2, true), .nilslice, .nilslice, .int .u32 0, .int .u32 64, .sref 0 (Z.length + 2) 0 1 0 (2, true)] 0 6 false false]) [] (by simp [hX', cutY, cutN, gz])
  rw [hY]
  simp (config := {maxSteps := 3000000}) (disch := omega) [eq_prefM, eq_nilM, gz]
end Go.Proofs.YthiciofacaeddaaGreat
end
section
namespace Go.Proofs.YthiciofacaeddaaGreat
open Go Go.Sim
set_option maxRecDepth 100000
set_option maxHeartbeats 0
set_option linter.unusedSimpArgs false
set_option linter.unusedVariables false

theorem mod_solid (x : Img) : Solid (modV x) := by
  have hM := procs_solid (sF x) (tsF x)
  rw [mod_eq]
  obtain ⟨g1, g2, g3⟩ := hM
  refine ⟨?_, ?_, ?_⟩ <;> simp [Fl.canon_lsts]
theorem eq_modV (x : Img) (p q : Operand) : binO E .eql 29 p q (modV x) .nilptr = some (.bool false) := eq_pconM _ _ _ _
theorem neq_pconM (x y : Operand) (c : List V) (o : Nat) : binO E .neq 29 x y (.pcon c o) .nilptr = some (.bool true) := by
  show binV E .neq 29 (.pcon c o) .nilptr = some (.bool true)
  have h : E.P.underlying 29 = some (.pointer 122) := by kernel_rfl
  unfold binV
  simp [eqV, h]
theorem neq_modV (x : Img) (p q : Operand) : binO E .neq 29 p q (modV x) .nilptr = some (.bool true) := neq_pconM _ _ _ _
theorem ref_solid (x : Img) : Solid (refV x) := by refine ⟨?_, ?_, ?_⟩ <;> simp
theorem VerifyTakes (x : Img) (h1 : x.code.length ≤ 17592186043904) (h2 : x.jumps.length ≤ 35184372087808) (h3 : x.data.length ≤ 140737488351232) (h4 : x.names.length ≤ 5864062014634) :
    pureV E (om E) 3 false [imgV x] = some (bb true) := by
  apply pu_3
  by_cases h : Taken x
  · have hT := taken_ok x h h1 h2 h3 h4
    have hW := Whole x h
    have he := eq_modV x
    have hn := neq_modV x
    obtain ⟨g1, g2, g3⟩ := mod_solid x
    obtain ⟨r1, r2, r3⟩ := ref_solid x
    generalize modV x = M at *
    generalize refV x = R at *
    simp (disch := omega) [if_pos, if_neg, iteK_pos, iteK_neg, Tryz.f3, hT, hW, he, hn, g1, g2, g3, r1, r2, r3]
  · have hT := taken_no x h h1 h2 h3 h4
    simp (disch := omega) [if_pos, if_neg, iteK_pos, iteK_neg, Tryz.f3, hT, eq_nilM, Awake]
end Go.Proofs.YthiciofacaeddaaGreat
end
section
namespace Go.Proofs.YthiciofacaeddaaGreat
open Go Go.Sim Go.RowKit Go.ChangeShapes Go.WideShapes Go.Deep
set_option maxRecDepth 100000
set_option linter.unusedSimpArgs false
set_option linter.unusedVariables false

section
variable {H : Type} {enc : TypeId × Value → H} {W : World}
theorem u8_of {n : Int} (h : (Lit.int .u8 n).wf = true) : n = ((UInt8.ofNat n.toNat).toNat : Int) := by
  simp [Lit.wf, IntKind.min, IntKind.max] at h
  simp only [UInt8.toNat_ofNat']; omega
theorem u32_of {n : Int} (h : (Lit.int .u32 n).wf = true) : n = ((UInt32.ofNat n.toNat).toNat : Int) := by
  simp [Lit.wf, IntKind.min, IntKind.max] at h
  simp only [UInt32.toNat_ofNat']; omega
theorem el_u8 (n : Nat) (cs : List Value) (x : DataW H × List MemPlace) (h : DataW.trod enc Tryz.prog W 0 (fun _ => true) true n 5 cs = some x) : ∃ a : UInt8, cs = (eU8.enc a).map toVal ∧ ∀ u ∈ eU8.enc a, simpleV u = true := by
  obtain ⟨m, rfl, _, hw⟩ := DataW.trod_int Tryz.underlying5 h
  refine ⟨UInt8.ofNat m.toNat, ?_, by simp [simpleV]⟩
  show _ = [Value.int .u8 _]
  rw [← u8_of hw]
theorem el_u32 (n : Nat) (cs : List Value) (x : DataW H × List MemPlace) (h : DataW.trod enc Tryz.prog W 0 (fun _ => true) true n 25 cs = some x) : ∃ a : UInt32, cs = (eU32.enc a).map toVal ∧ ∀ u ∈ eU32.enc a, simpleV u = true := by
  obtain ⟨m, rfl, _, hw⟩ := DataW.trod_int Tryz.underlying25 h
  refine ⟨UInt32.ofNat m.toNat, ?_, by simp [simpleV]⟩
  show _ = [Value.int .u32 _]
  rw [← u32_of hw]
theorem el_instr (n : Nat) (cs : List Value) (x : DataW H × List MemPlace) (h : DataW.trod enc Tryz.prog W 0 (fun _ => true) true n 71 cs = some x) : ∃ a : Instr, cs = (eInstr.enc a).map toVal ∧ ∀ u ∈ eInstr.enc a, simpleV u = true := by
  obtain ⟨a, b, n', y, z, rfl, h0, h1⟩ := two_in Tryz.underlying71 (by kernel_rfl) rfl rfl (by kernel_rfl) (by kernel_rfl) h
  obtain ⟨m0, e0, _, w0⟩ := DataW.trod_int Tryz.underlying69 h0
  obtain ⟨m1, e1, _, w1⟩ := DataW.trod_int Tryz.underlying25 h1
  simp at e0 e1
  subst e0 e1
  refine ⟨⟨UInt8.ofNat m0.toNat, UInt32.ofNat m1.toNat⟩, ?_, by simp [simpleV]⟩
  show _ = [Value.int .u8 _, Value.int .u32 _]
  rw [← u8_of w0, ← u32_of w1]
theorem el_export (n : Nat) (cs : List Value) (x : DataW H × List MemPlace) (h : DataW.trod enc Tryz.prog W 0 (fun _ => true) true n 80 cs = some x) : ∃ a : Export, cs = (eExport.enc a).map toVal ∧ ∀ u ∈ eExport.enc a, simpleV u = true := by
  obtain ⟨a, b, n', y, z, rfl, h0, h1⟩ := two_in Tryz.underlying80 (by kernel_rfl) rfl rfl (by kernel_rfl) (by kernel_rfl) h
  obtain ⟨s, e0, _⟩ := DataW.trod_string Tryz.underlying9 h0
  obtain ⟨m1, e1, _, w1⟩ := DataW.trod_int Tryz.underlying25 h1
  simp at e0 e1
  subst e0 e1
  refine ⟨⟨s.data.toList, UInt32.ofNat m1.toNat⟩, ?_, by simp [simpleV]⟩
  show _ = [Value.string ⟨s.data.toList.toArray⟩, Value.int .u32 _]
  rw [← u32_of w1]
instance : Inhabited Instr := ⟨⟨0, 0⟩⟩
instance : Inhabited Export := ⟨⟨[], 0⟩⟩
theorem img_in {b0 : Nat} {v : Value} {d : DataW H} {ps : List MemPlace} (hv : Value.okWide Tryz.prog W .any b0 28 v) (hT : DataW.Trod enc Tryz.prog W 0 (fun _ => true) true 28 v d ps) :
    ∃ x : Img, VRel (fun b => b < W.heap.size) W Bd.none_ (imgV x) v ∧ ∀ (j : Nat) ts ds, ts[j]? = some 28 → ds[j]? = some d → (DataW.weightsEach Tryz.prog ts ds).all (· ≤ reachBytes) = true → x.code.length ≤ 17592186043904 ∧ x.jumps.length ≤ 35184372087808 ∧ x.data.length ≤ 140737488351232 ∧ x.names.length ≤ 5864062014634 := by
  obtain ⟨cs, rfl, hlen, hcell⟩ := struct_cells (ts := [22, 23, 24, 25, 25, 26]) Tryz.underlying28 (by kernel_rfl) (by kernel_rfl) hv
  obtain ⟨c0, c1, c2, c3, c4, c5, rfl⟩ := six hlen
  obtain ⟨fuel, hf⟩ := hT
  obtain ⟨xs, n, rfl, hx, hl, hxl, hfs⟩ := DataW.trod_struct Tryz.underlying28 hf
  have sh : ∀ (t e : TypeId) (c : Value), Tryz.prog.underlying t = some (.slice e) → Cell.okWide Tryz.prog W .any b0 t c → c = .slice none 0 0 ∨ ∃ b off len cap, c = .slice (some ⟨b, off, none⟩) len cap ∧ len ≤ cap := fun t e c hu hc =>
    slice_shape (P := Tryz.prog) (W := W) (r := .any) (base := b0) (t := t) hu (by simp only [Value.okWide, hu]; exact hc)
  have one1 : ∀ t : TypeId, t = 22 ∨ t = 23 ∨ t = 24 ∨ t = 25 ∨ t = 26 → Tryz.prog.cellsOf t = 1 := by
    rintro t (rfl | rfl | rfl | rfl | rfl) <;> kernel_rfl
  match xs, hxl with
  | [(d0, p0), (d1, p1), (d2, p2), (d3, p3), (d4, p4), (d5, p5)], _ =>
    have g0 : DataW.trod enc Tryz.prog W 0 (fun _ => true) true n 22 (([c0, c1, c2, c3, c4, c5].drop 0).take (Tryz.prog.cellsOf 22)) = some (d0, p0) := hfs 0 _ rfl
    rw [one1 22 (by simp)] at g0
    replace g0 : DataW.trod enc Tryz.prog W 0 (fun _ => true) true n 22 [c0] = some (d0, p0) := g0
    have g1 : DataW.trod enc Tryz.prog W 0 (fun _ => true) true n 23 (([c0, c1, c2, c3, c4, c5].drop 1).take (Tryz.prog.cellsOf 23)) = some (d1, p1) := hfs 1 _ rfl
    rw [one1 23 (by simp)] at g1
    replace g1 : DataW.trod enc Tryz.prog W 0 (fun _ => true) true n 23 [c1] = some (d1, p1) := g1
    have g2 : DataW.trod enc Tryz.prog W 0 (fun _ => true) true n 24 (([c0, c1, c2, c3, c4, c5].drop 2).take (Tryz.prog.cellsOf 24)) = some (d2, p2) := hfs 2 _ rfl
    rw [one1 24 (by simp)] at g2
    replace g2 : DataW.trod enc Tryz.prog W 0 (fun _ => true) true n 24 [c2] = some (d2, p2) := g2
    have g3 : DataW.trod enc Tryz.prog W 0 (fun _ => true) true n 25 (([c0, c1, c2, c3, c4, c5].drop 3).take (Tryz.prog.cellsOf 25)) = some (d3, p3) := hfs 3 _ rfl
    rw [one1 25 (by simp)] at g3
    replace g3 : DataW.trod enc Tryz.prog W 0 (fun _ => true) true n 25 [c3] = some (d3, p3) := g3
    have g4 : DataW.trod enc Tryz.prog W 0 (fun _ => true) true n 25 (([c0, c1, c2, c3, c4, c5].drop 4).take (Tryz.prog.cellsOf 25)) = some (d4, p4) := hfs 4 _ rfl
    rw [one1 25 (by simp)] at g4
    replace g4 : DataW.trod enc Tryz.prog W 0 (fun _ => true) true n 25 [c4] = some (d4, p4) := g4
    have g5 : DataW.trod enc Tryz.prog W 0 (fun _ => true) true n 26 (([c0, c1, c2, c3, c4, c5].drop 5).take (Tryz.prog.cellsOf 26)) = some (d5, p5) := hfs 5 _ rfl
    rw [one1 26 (by simp)] at g5
    replace g5 : DataW.trod enc Tryz.prog W 0 (fun _ => true) true n 26 [c5] = some (d5, p5) := g5
    obtain ⟨code, o0, r0, l0⟩ := list_in eInstr Tryz.underlying22 (by kernel_rfl) el_instr (sh 22 71 c0 Tryz.underlying22 (hcell 0 c0 22 rfl rfl)) g0
    obtain ⟨jumps, o1, r1, l1⟩ := list_in eU32 Tryz.underlying23 (by kernel_rfl) el_u32 (sh 23 25 c1 Tryz.underlying23 (hcell 1 c1 23 rfl rfl)) g1
    obtain ⟨data, o2, r2, l2⟩ := list_in eU8 Tryz.underlying24 (by kernel_rfl) el_u8 (sh 24 5 c2 Tryz.underlying24 (hcell 2 c2 24 rfl rfl)) g2
    obtain ⟨names, o5, r5, l5⟩ := list_in eExport Tryz.underlying26 (by kernel_rfl) el_export (sh 26 80 c5 Tryz.underlying26 (hcell 5 c5 26 rfl rfl)) g5
    obtain ⟨m3, e3, _, w3⟩ := DataW.trod_int Tryz.underlying25 g3
    obtain ⟨m4, e4, _, w4⟩ := DataW.trod_int Tryz.underlying25 g4
    replace e3 : [c3] = [Value.int .u32 m3] := e3
    replace e4 : [c4] = [Value.int .u32 m4] := e4
    simp only [List.cons.injEq, and_true] at e3 e4
    subst e3 e4
    have hd : d = .agg [d0, d1, d2, d3, d4, d5] := by
      have := congrArg Prod.fst hx
      simpa using this
    have hw : ∀ (t : TypeId) (e : DataW H) (j : Nat) (ts : List TypeId) (ds : List (DataW H)), ts[j]? = some 28 → ds[j]? = some d → (DataW.weightsEach Tryz.prog ts ds).all (· ≤ reachBytes) = true →
        (∃ k : Nat, ([22, 23, 24, 25, 25, 26] : List TypeId)[k]? = some t ∧ [d0, d1, d2, d3, d4, d5][k]? = some e) → ∀ x ∈ e.weights Tryz.prog t, x ≤ 140737488351232 := by
      intro t e j ts ds h1 h2 h3 ⟨k, k1, k2⟩ x hx'
      have hin : x ∈ d.weights Tryz.prog 28 := by
        rw [hd]
        unfold DataW.weights
        rw [Tryz.underlying28]
        exact weight_each (ts := [22, 23, 24, 25, 25, 26]) (ds := [d0, d1, d2, d3, d4, d5]) k1 k2 hx'
      exact of_decide_eq_true (List.all_eq_true.1 h3 x (weight_each h1 h2 hin))
    refine ⟨⟨code, jumps, data, UInt32.ofNat m3.toNat, UInt32.ofNat m4.toNat, names⟩, ?_, fun j ts ds h1 h2 h3 => ⟨?_, ?_, ?_, ?_⟩⟩
    · unfold VRel
      refine ⟨_, rfl, ?_⟩
      simp only [ORelL]
      exact ⟨_, _, rfl, o0, r0, _, _, rfl, o1, r1, _, _, rfl, o2, r2, _, _, rfl, rfl, by simp only [VRel]; rw [← u32_of w3], _, _, rfl, rfl, by simp only [VRel]; rw [← u32_of w4], _, _, rfl, o5, r5, rfl⟩
    · show code.length ≤ 17592186043904
      rcases weight_of Tryz.underlying22 g0 r0 with rfl | ⟨x, hx', hle⟩
      · simp
      · have := hw _ _ j ts ds h1 h2 h3 ⟨0, rfl, rfl⟩ x hx'
        have hb : Tryz.prog.bytesOf 71 = 8 := by kernel_rfl
        rw [hb] at hle; omega
    · show jumps.length ≤ 35184372087808
      rcases weight_of Tryz.underlying23 g1 r1 with rfl | ⟨x, hx', hle⟩
      · simp
      · have := hw _ _ j ts ds h1 h2 h3 ⟨1, rfl, rfl⟩ x hx'
        have hb : Tryz.prog.bytesOf 25 = 4 := by kernel_rfl
        rw [hb] at hle; omega
    · show data.length ≤ 140737488351232
      rcases weight_of Tryz.underlying24 g2 r2 with rfl | ⟨x, hx', hle⟩
      · simp
      · have := hw _ _ j ts ds h1 h2 h3 ⟨2, rfl, rfl⟩ x hx'
        have hb : Tryz.prog.bytesOf 5 = 1 := by kernel_rfl
        rw [hb] at hle; omega
    · show names.length ≤ 5864062014634
      rcases weight_of Tryz.underlying26 g5 r5 with rfl | ⟨x, hx', hle⟩
      · simp
      · have := hw _ _ j ts ds h1 h2 h3 ⟨5, rfl, rfl⟩ x hx'
        have hb : Tryz.prog.bytesOf 80 = 24 := by kernel_rfl
        rw [hb] at hle; omega
end
end Go.Proofs.YthiciofacaeddaaGreat
end
