/-
 awake.
 The law VerifyTakes, walked.
 An image as an argument, by its contents, and how much it can weigh.
-/
import Derived.Test.YthiciofacaeddaaGreatLc
import Derived.Test.YthiciofacaeddaaGreatIf
import Derived.Test.YthiciofacaeddaaGreatIc
import Derived.Test.YthiciofacaeddaaGreatMe
section
namespace Go.Proofs.YthiciofacaeddaaGreat
open Go Go.Sim
set_option maxRecDepth 100000
set_option maxHeartbeats 0
set_option linter.unusedSimpArgs false
set_option linter.unusedVariables false

def sampleX : Img := ⟨[⟨3, 8⟩, ⟨8, 4⟩, ⟨5, 0⟩, ⟨4, 8⟩, ⟨3, 4⟩, ⟨8, 7⟩, ⟨4, 4⟩], [], [], 0, 64, [⟨[109, 97, 105, 110], 0⟩]⟩
def sampleY : Img := ⟨[⟨3, 8⟩, ⟨1, 0⟩, ⟨5, 0⟩, ⟨4, 8⟩, ⟨3, 4⟩, ⟨8, 7⟩, ⟨4, 4⟩], [], [], 0, 64, [⟨[109, 97, 105, 110], 0⟩]⟩
theorem insBad_of {i : Instr} (h : Fl.insBad (fl i) = 0) : insBad i = 0 := by rw [← insBad_fl]; exact h
theorem sampleX_chk : checkP sampleX = 0 := by
 have hc : codeFrom sampleX.code 0 = 0 := codeFrom_good fun i hi => insBad_of (by
  have : sampleX.code.all (fun i => decide (Fl.insBad (fl i) = 0)) = true := by decide
  simpa using List.all_eq_true.1 this i hi)
 have hn : namesFrom sampleX.names 0 = true := namesFrom_good fun j hj => by
  have : j = 0 := by simp [sampleX] at hj; omega
  subst this; decide
 unfold checkP
 rw [if_neg (by decide), hc]
 rw [if_neg (by decide), if_neg (by decide), if_neg (by decide), if_neg (by decide), if_neg (by decide), hn]
 rfl
theorem sampleX_find : Fl.FindOk (cF sampleX) (jF sampleX) := by
 refine ⟨enc_fl sampleX_chk, by decide, by decide, ?_, by intro i hi; simp [sampleX] at hi⟩
 have : (List.range 7).all (fun i => decide (Fl.faultAt (Fl.cutF (cF sampleX)) (cF sampleX) i = 0)) = true := by decide
 intro i hi
 simpa using List.all_eq_true.1 this i (List.mem_range.mpr hi)
theorem sampleX_names : Fl.NamesAt (cF sampleX) sampleX.names := by
 intro i hi
 have : i = 0 := by simp [sampleX] at hi; omega
 subst this
 exact (by decide : Fl.beginsF (Fl.cutF (cF sampleX)) 0 = true)
theorem sampleX_all : Fl.AllOk (cF sampleX) (jF sampleX) := by
 intro i hi
 have hn : (Fl.cutF (cF sampleX)).1.length = 2 := by rfl
 rw [hn] at hi
 have : i = 0 ∨ i = 1 := by omega
 rcases this with rfl | rfl
 ·rfl
 ·rfl
theorem sampleX_ok : Taken sampleX := ⟨sampleX_chk, sampleX_find, sampleX_names, sampleX_all⟩
theorem sampleX_ds : dF sampleX = [0, 0, 1, 1, 0, 0, 1] := by rfl
theorem sampleY_chk : checkP sampleY = 0 := by
 have hc : codeFrom sampleY.code 0 = 0 := codeFrom_good fun i hi => insBad_of (by
  have : sampleY.code.all (fun i => decide (Fl.insBad (fl i) = 0)) = true := by decide
  simpa using List.all_eq_true.1 this i hi)
 have hn : namesFrom sampleY.names 0 = true := namesFrom_good fun j hj => by
  have : j = 0 := by simp [sampleY] at hj; omega
  subst this; decide
 unfold checkP
 rw [if_neg (by decide), hc]
 rw [if_neg (by decide), if_neg (by decide), if_neg (by decide), if_neg (by decide), if_neg (by decide), hn]
 rfl
theorem sampleY_find : Fl.FindOk (cF sampleY) (jF sampleY) := by
 refine ⟨enc_fl sampleY_chk, by decide, by decide, ?_, by intro i hi; simp [sampleY] at hi⟩
 have : (List.range 7).all (fun i => decide (Fl.faultAt (Fl.cutF (cF sampleY)) (cF sampleY) i = 0)) = true := by decide
 intro i hi
 simpa using List.all_eq_true.1 this i (List.mem_range.mpr hi)
theorem sampleY_names : Fl.NamesAt (cF sampleY) sampleY.names := by
 intro i hi
 have : i = 0 := by simp [sampleY] at hi; omega
 subst this
 exact (by decide : Fl.beginsF (Fl.cutF (cF sampleY)) 0 = true)
theorem sampleY_take : TakeNo sampleY 2 140 := by
 have h1 : (Fl.walkN (cF sampleY) (Fl.cutF (cF sampleY)) (Fl.tgts (cF sampleY) (jF sampleY)) 0).at_ = 2 := by rfl
 have h2 : (Fl.walkN (cF sampleY) (Fl.cutF (cF sampleY)) (Fl.tgts (cF sampleY) (jF sampleY)) 0).e = 140 := by rfl
 exact Take_flow sampleY sampleY_chk sampleY_find sampleY_names 0 (by decide) (fun k hk => by omega) (by rw [h2]; omega) h1 h2
abbrev sampleB : List Blk := [.row [.sref 0 1 0 7 0 (2, true), .nilslice, .nilslice, .int .u32 0, .int .u32 64, .sref 0 2 0 1 0 (2, true)] 0 6 false false,
 .row [.int .u8 3, .int .u32 8, .int .u8 8, .int .u32 4, .int .u8 5, .int .u32 0, .int .u8 4, .int .u32 8, .int .u8 3, .int .u32 4, .int .u8 8, .int .u32 7, .int .u8 4, .int .u32 4] 0 2 true true,
 .row [.str [109, 97, 105, 110], .int .u32 0] 0 2 true true]
theorem Sample_body : bodyV E (om E) 26 [] [[]] = some (.agg [.sref 0 1 0 7 0 (2, true), .nilslice, .nilslice, .int .u32 0, .int .u32 64, .sref 0 2 0 1 0 (2, true)], [sampleB]) := by
 apply bo_26
 simp (config := {maxSteps := 3000000}) (disch := omega) [Tryz.f26]
abbrev sampleA (n : Nat) : V := .agg [.sref 0 (n + 1) 0 7 0 (2, true), .nilslice, .nilslice, .int .u32 0, .int .u32 64, .sref 0 (n + 2) 0 1 0 (2, true)]
theorem Awake : pureV E (om E) 8 false [] = some (bb true) := by
 have cutX : V.canonL (cutCells [.int .u8 3, .int .u32 8, .int .u8 8, .int .u32 4, .int .u8 5, .int .u32 0, .int .u8 4, .int .u32 8, .int .u8 3, .int .u32 4, .int .u8 8, .int .u32 7, .int .u8 4, .int .u32 4] 0 7 2) = [.int .u8 3, .int .u32 8, .int .u8 8, .int .u32 4, .int .u8 5, .int .u32 0, .int .u8 4, .int .u32 8, .int .u8 3, .int .u32 4, .int .u8 8, .int .u32 7, .int .u8 4, .int .u32 4] := by rfl
 have cutY : V.canonL (cutCells [.int .u8 3, .int .u32 8, .int .u8 1, .int .u32 0, .int .u8 5, .int .u32 0, .int .u8 4, .int .u32 8, .int .u8 3, .int .u32 4, .int .u8 8, .int .u32 7, .int .u8 4, .int .u32 4] 0 7 2) = [.int .u8 3, .int .u32 8, .int .u8 1, .int .u32 0, .int .u8 5, .int .u32 0, .int .u8 4, .int .u32 8, .int .u8 3, .int .u32 4, .int .u8 8, .int .u32 7, .int .u8 4, .int .u32 4] := by rfl
 have cutN : V.canonL (cutCells [.str [109, 97, 105, 110], .int .u32 0] 0 1 2) = [.str [109, 97, 105, 110], .int .u32 0] := by rfl
 have hX : imgV sampleX = .agg [.scon [.int .u8 3, .int .u32 8, .int .u8 8, .int .u32 4, .int .u8 5, .int .u32 0, .int .u8 4, .int .u32 8, .int .u8 3, .int .u32 4, .int .u8 8, .int .u32 7, .int .u8 4, .int .u32 4] 0 7 false,
  .scon [] 0 0 false, .scon [] 0 0 false, .int .u32 0, .int .u32 64, .scon [.str [109, 97, 105, 110], .int .u32 0] 0 1 false] := by rfl
 have hX' : imgV sampleY = .agg [.scon [.int .u8 3, .int .u32 8, .int .u8 1, .int .u32 0, .int .u8 5, .int .u32 0, .int .u8 4, .int .u32 8, .int .u8 3, .int .u32 4, .int .u8 8, .int .u32 7, .int .u8 4, .int .u32 4] 0 7 false,
  .scon [] 0 0 false, .scon [] 0 0 false, .int .u32 0, .int .u32 64, .scon [.str [109, 97, 105, 110], .int .u32 0] 0 1 false] := by rfl
 have hv1 : viewArgs [sampleB] [sampleA 0] = some [imgV sampleX] := by simp [hX, cutX, cutN]
 obtain ⟨j, X, hT, hV⟩ := Take_at sampleX sampleX_ok hv1
 have hV1 := hV sampleB [] [] rfl
 rw [List.append_nil] at hV1
 have hvm : ∀ vs us, viewArgs [sampleB ++ X] vs = some us → viewArgs [sampleB ++ X] (.pref 0 (sampleB.length + j) 0 0 :: vs) = some (modV sampleX :: us) := fun vs us h => by
  refine viewArgs_cons ?_ h
  have hf : V.flat (.pref 0 (sampleB.length + j) 0 0) = false := rfl
  simp only [viewArgs, hf, Bool.false_eq_true, if_false, hV1, Option.bind_some, canon_modU]
 have F := taken_facts sampleX_ok
 have hM := procs_solid (sF sampleX) (tsF sampleX)
 have hc := fun lent => MCount hM (nF sampleX) (dF sampleX) sampleX (bitsI sampleX) (digestP sampleX) lent
 have hd := fun lent => MDepth hM (nF sampleX) (dF sampleX) sampleX (bitsI sampleX) (digestP sampleX) lent (by have := F.dlen; have := F.len; omega) 3 (by omega)
 have hCo : callV E (om E) 27 [.pref 0 (sampleB.length + j) 0 0] [sampleB ++ X] = some (ii 7, [sampleB ++ X]) := by
  rw [call_27, hvm [] [] rfl]
  simp only [Option.bind_some]
  rw [mod_eq, hc]
  rfl
 have hDe : callV E (om E) 28 [.pref 0 (sampleB.length + j) 0 0, .int .u32 3] [sampleB ++ X] = some (ii 1, [sampleB ++ X]) := by
  rw [call_28, hvm [.int .u32 3] [.int .u32 3] (by simp)]
  simp only [Option.bind_some]
  rw [mod_eq]
  have e : pureV E (om E) 28 true [modM (Fl.procsV (sF sampleX) (tsF sampleX)) (nF sampleX) (dF sampleX) sampleX (bitsI sampleX) (digestP sampleX), .int .u32 3] = some (ii (depF (dF sampleX) 3)) := hd true
  have e2 : depF (dF sampleX) 3 = 1 := by rw [sampleX_ds]; rfl
  rw [e2] at e
  have e3 : (!V.flatL [.pref 0 (sampleB.length + j) 0 0, .int .u32 3]) = true := rfl
  rw [e3, e]
  rfl
 clear hv1 hV hV1 hvm hc hd
 apply pu_8
 obtain ⟨H, hH⟩ : ∃ H, sampleB = H := ⟨_, rfl⟩
 have hHl : H.length = 3 := by rw [← hH]; rfl
 rw [hH] at hT hCo hDe
 simp only [sampleA, Nat.zero_add] at hT
 unfold sampleB at hH
 simp (config := {maxSteps := 3000000}) (disch := omega) [Tryz.f8, call_26, Sample_body]
 rw [hH, hT]
 clear hT hH
 generalize hZ : H ++ X = Z at *
 have gz : ∀ (L : List Blk) (k : Nat), (Z ++ L)[Z.length + k]? = L[k]? := fun L k => by rw [List.getElem?_append_right (by omega), Nat.add_sub_cancel_left]
 simp (config := {maxSteps := 3000000}) (disch := omega) [call_26, Sample_body, hCo, hDe, gz, eq_prefM, eq_nilM, -call_27, -call_28, -view_pref]
 obtain ⟨Y, hY⟩ := sampleY_take (.agg [.sref 0 (Z.length + 1) 0 7 0 (2, true), .nilslice, .nilslice, .int .u32 0, .int .u32 64, .sref 0 (Z.length + 2) 0 1 0 (2, true)]) (Z ++ [Blk.row [.sref 0 (Z.length + 1) 0 7 0 (2, true), .nilslice, .nilslice, .int .u32 0, .int .u32 64, .sref 0 (Z.length + 2) 0 1 0 (2, true)] 0 6 false false,
  .row [.int .u8 3, .int .u32 8, .int .u8 1, .int .u32 0, .int .u8 5, .int .u32 0, .int .u8 4, .int .u32 8, .int .u8 3, .int .u32 4, .int .u8 8, .int .u32 7, .int .u8 4, .int .u32 4] 0 2 true true,
  .row [.str [109, 97, 105, 110], .int .u32 0] 0 2 true true,
  .row [.sref 0 (Z.length + 1) 0 7 0 (2, true), .nilslice, .nilslice, .int .u32 0, .int .u32 64, .sref 0 (Z.length + 2) 0 1 0 (2, true)] 0 6 false false]) [] (by simp [hX', cutY, cutN, gz])
 rw [hY]
 simp (config := {maxSteps := 3000000}) (disch := omega) [eq_prefM, eq_nilM, gz]
end Go.Proofs.YthiciofacaeddaaGreat
end
section
namespace Go.Proofs.YthiciofacaeddaaGreat
open Go Go.Sim
set_option maxRecDepth 100000
set_option maxHeartbeats 0
set_option linter.unusedSimpArgs false
set_option linter.unusedVariables false

theorem mod_solid (x : Img) : Solid (modV x) := by
 have hM := procs_solid (sF x) (tsF x)
 rw [mod_eq]
 obtain ⟨g1, g2, g3⟩ := hM
 refine ⟨?_, ?_, ?_⟩ <;> simp [Fl.canon_lsts]
theorem ref_solid (x : Img) : Solid (refV x) := by refine ⟨?_, ?_, ?_⟩ <;> simp
end Go.Proofs.YthiciofacaeddaaGreat
end
section
namespace Go.Proofs.YthiciofacaeddaaGreat
open Go Go.Sim Go.RowKit Go.ChangeShapes Go.WideShapes Go.Deep
set_option maxRecDepth 100000
set_option linter.unusedSimpArgs false
set_option linter.unusedVariables false

section
variable {H : Type} {enc : TypeId × Value → H} {W : World}
instance : Inhabited Instr := ⟨⟨0, 0⟩⟩
instance : Inhabited Export := ⟨⟨[], 0⟩⟩
end
end Go.Proofs.YthiciofacaeddaaGreat
end
