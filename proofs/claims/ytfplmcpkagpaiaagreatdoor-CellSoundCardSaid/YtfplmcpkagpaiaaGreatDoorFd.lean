/-
 Package fuse: Fits, Longest.
-/
import Derived.Test.YtfplmcpkagpaiaaGreatDoorFc
set_option maxRecDepth 100000
set_option linter.unusedSimpArgs false
set_option linter.unusedVariables false
section
namespace Go.Proofs.YtfplmcpkagpaiaaGreatDoor.Fl
open Go Go.Sim
def isCmpF (op : Nat) : Bool := decide (13 ≤ op ∧ op ≤ 28)
def isLoadF (op : Nat) : Bool := decide (29 ≤ op ∧ op ≤ 31)
def isStoreF (op : Nat) : Bool := decide (32 ≤ op ∧ op ≤ 34)
def isArgF (op : Nat) : Bool := decide (op = 12)
def isCallF (op : Nat) : Bool := decide (op = 5)
def fitsF (w : List Instr) (k : Nat) : Shp :=
 match k with
 | 1 => oneS w
 | 2 => foldedF 2 w
 | 3 => foldedF 3 w
 | 4 => foldedF 4 w
 | 5 => behindGo binF true false w 16
 | 6 => behindGo isCmpF true true w 16
 | 7 => behindGo isArgF false true w 16
 | 8 => behindGo isCallF false false w 16
 | 9 => behindGo isLoadF true false w 16
 | 10 => behindGo isStoreF true false w 16
 | 11 => localF false isArgF false true w
 | 12 => localF false isLoadF true false w
 | 13 => localF true binF true false w
 | 14 => localF true isCmpF true true w
 | 15 => bumpF w
 | _ => Shp.none
abbrev fusedV (at_ : Nat) (k : Nat) (f : Shp) : V := .agg [.int .u32 at_, .int .u32 f.len, .int .u8 k, .int .u8 f.op, .int .u32 f.a, .int .u32 f.b]
theorem cBin (op : Nat) (h : Heap) : callV E (om E) 89 [.int .u8 op] h = some (bb (binF op), h) := by simp (disch := omega) [if_pos, if_neg, iteK_pos, iteK_neg, fuse_binary]
theorem cCmp (op : Nat) (h : Heap) : callV E (om E) 91 [.int .u8 op] h = some (bb (isCmpF op), h) := by simp (disch := omega) [if_pos, if_neg, iteK_pos, iteK_neg, fuse_comparison, isCmpF]
theorem cArg (op : Nat) (h : Heap) : callV E (om E) 93 [.int .u8 op] h = some (bb (isArgF op), h) := by simp (disch := omega) [if_pos, if_neg, iteK_pos, iteK_neg, fuse_arg, isArgF]
theorem cCall (op : Nat) (h : Heap) : callV E (om E) 95 [.int .u8 op] h = some (bb (isCallF op), h) := by simp (disch := omega) [if_pos, if_neg, iteK_pos, iteK_neg, fuse_call, isCallF]
theorem cLoad (op : Nat) (h : Heap) : callV E (om E) 97 [.int .u8 op] h = some (bb (isLoadF op), h) := by simp (disch := omega) [if_pos, if_neg, iteK_pos, iteK_neg, fuse_load, isLoadF]
theorem cStore (op : Nat) (h : Heap) : callV E (om E) 98 [.int .u8 op] h = some (bb (isStoreF op), h) := by simp (disch := omega) [if_pos, if_neg, iteK_pos, iteK_neg, fuse_store, isStoreF]
theorem kOp (f i h) : callV E (om E) 90 [fsV f, insV i] h = some (fsV (keepF true false f i), h) := by simp (disch := omega) [if_pos, if_neg, iteK_pos, iteK_neg, fuse_withOp]
theorem kArg (f i h) : callV E (om E) 94 [fsV f, insV i] h = some (fsV (keepF false true f i), h) := by simp (disch := omega) [if_pos, if_neg, iteK_pos, iteK_neg, fuse_withArg]
theorem kBoth (f i h) : callV E (om E) 92 [fsV f, insV i] h = some (fsV (keepF true true f i), h) := by simp (disch := omega) [if_pos, if_neg, iteK_pos, iteK_neg, fuse_withBoth]
theorem kAlone (f i h) : callV E (om E) 96 [fsV f, insV i] h = some (fsV (keepF false false f i), h) := by simp (disch := omega) [if_pos, if_neg, iteK_pos, iteK_neg, fuse_alone]
section
variable {c : List Instr} {a e : Nat}
theorem cBehind (L : Lies c a e) {g gk : FuncId} {is : Nat → Bool} {o b : Bool} (hg : ∀ (op : Nat) h, callV E (om E) g [.int .u8 op] h = some (bb (is op), h)) (hk : ∀ f i h, callV E (om E) gk [fsV f, insV i] h = some (fsV (keepF o b f i), h)) (h : Heap) :
  callV E (om E) 117 [stV c a e, .pcon [.func (.func g) [] []] 0, .pcon [.func (.func gk) [] []] 0] h = some (fsV (behindGo is o b (win c a e) 16), h) := by
 have := behind1 false L hg hk
 simp (disch := omega) [if_pos, if_neg, iteK_pos, iteK_neg, this]
theorem cLocal (L : Lies c a e) {g gk : FuncId} {is : Nat → Bool} {o b : Bool} (ld : Bool) (hg : ∀ (op : Nat) h, callV E (om E) g [.int .u8 op] h = some (bb (is op), h)) (hk : ∀ f i h, callV E (om E) gk [fsV f, insV i] h = some (fsV (keepF o b f i), h)) (h : Heap) :
  callV E (om E) 119 [stV c a e, .pcon [bb ld] 0, .pcon [.func (.func g) [] []] 0, .pcon [.func (.func gk) [] []] 0] h = some (fsV (localF ld is o b (win c a e)), h) := by
 have := local1 false L ld hg hk
 simp (disch := omega) [if_pos, if_neg, iteK_pos, iteK_neg, this]
theorem cFolded (L : Lies c a e) (kind : Nat) (hk : 1 ≤ kind) (h : Heap) : callV E (om E) 115 [stV c a e, .pcon [.int .u8 kind] 0] h = some (fsV (foldedF kind (win c a e)), h) := by simp (disch := omega) [if_pos, if_neg, iteK_pos, iteK_neg, folded1 false L kind hk]
theorem cOne (L : Lies c a e) (h : Heap) : callV E (om E) 86 [stV c a e] h = some (fsV (oneS (win c a e)), h) := by simp (disch := omega) [if_pos, if_neg, iteK_pos, iteK_neg, one1 false L]
theorem cBump (L : Lies c a e) (h : Heap) : callV E (om E) 100 [stV c a e] h = some (fsV (bumpF (win c a e)), h) := by simp (disch := omega) [if_pos, if_neg, iteK_pos, iteK_neg, bump1 false L]
end
set_option maxHeartbeats 4000000 in
theorem Fits (lent) {c : List Instr} {a e : Nat} (L : Lies c a e) (k : Nat) (hk : 1 ≤ k) (hk' : k ≤ 15) : pureV E (om E) 25 lent [lst eInstr c, .int .u32 a, .int .u32 e, .int .u8 k] =
  some (.tuple (if (fitsF (win c a e) k).len = 0 then [fusedV 0 0 Shp.none, bb false] else [fusedV a k (fitsF (win c a e) k), bb true])) := by
 have hl := fun lent => lies lent c a e (by have := L.lt; have := L.small; omega) L.small L.short
 rw [show decide (a < e ∧ e ≤ c.length) = true by simp [L.lt, L.le]] at hl
 have hkk : k = 1 ∨ k = 2 ∨ k = 3 ∨ k = 4 ∨ k = 5 ∨ k = 6 ∨ k = 7 ∨ k = 8 ∨ k = 9 ∨ k = 10 ∨ k = 11 ∨ k = 12 ∨ k = 13 ∨ k = 14 ∨ k = 15 := by omega
 have h1 := fun h => cOne L h
 have h2 : ∀ h, callV E (om E) 115 [stV c a e, .pcon [.int .u8 2] 0] h = some (fsV (foldedF 2 (win c a e)), h) := fun h => cFolded L 2 (by omega) h
 have h3 : ∀ h, callV E (om E) 115 [stV c a e, .pcon [.int .u8 3] 0] h = some (fsV (foldedF 3 (win c a e)), h) := fun h => cFolded L 3 (by omega) h
 have h4 : ∀ h, callV E (om E) 115 [stV c a e, .pcon [.int .u8 4] 0] h = some (fsV (foldedF 4 (win c a e)), h) := fun h => cFolded L 4 (by omega) h
 have h5 := fun h => cBehind L cBin kOp h
 have h6 := fun h => cBehind L cCmp kBoth h
 have h7 := fun h => cBehind L cArg kArg h
 have h8 := fun h => cBehind L cCall kAlone h
 have h9 := fun h => cBehind L cLoad kOp h
 have h10 := fun h => cBehind L cStore kOp h
 have h11 := fun h => cLocal L false cArg kArg h
 have h12 := fun h => cLocal L false cLoad kOp h
 have h13 := fun h => cLocal L true cBin kOp h
 have h14 := fun h => cLocal L true cCmp kBoth h
 have h15 := fun h => cBump L h
 clear L
 apply pu_25
 rcases hkk with rfl | rfl | rfl | rfl | rfl | rfl | rfl | rfl | rfl | rfl | rfl | rfl | rfl | rfl | rfl
 all_goals
  simp only [fitsF]
 ·clear h2 h3 h4 h5 h6 h7 h8 h9 h10 h11 h12 h13 h14 h15
  generalize oneS (win c a e) = f at *
  by_cases h0 : f.len = 0 <;> simp (disch := omega) [if_pos, if_neg, iteK_pos, iteK_neg, Tryz.f25, hl, shapes, shapesV, clo, fnV, h1, h0]
  all_goals
   rw [iteK_pos (by kernel_rfl)]
   simp (disch := omega) [if_pos, if_neg, iteK_pos, iteK_neg, h0, Shp.none]
 ·clear h1 h3 h4 h5 h6 h7 h8 h9 h10 h11 h12 h13 h14 h15
  generalize foldedF 2 (win c a e) = f at *
  by_cases h0 : f.len = 0 <;> simp (disch := omega) [if_pos, if_neg, iteK_pos, iteK_neg, Tryz.f25, hl, shapes, shapesV, clo, fnV, h2, h0]
  all_goals
   rw [iteK_pos (by kernel_rfl)]
   simp (disch := omega) [if_pos, if_neg, iteK_pos, iteK_neg, h0, Shp.none]
 ·clear h1 h2 h4 h5 h6 h7 h8 h9 h10 h11 h12 h13 h14 h15
  generalize foldedF 3 (win c a e) = f at *
  by_cases h0 : f.len = 0 <;> simp (disch := omega) [if_pos, if_neg, iteK_pos, iteK_neg, Tryz.f25, hl, shapes, shapesV, clo, fnV, h3, h0]
  all_goals
   rw [iteK_pos (by kernel_rfl)]
   simp (disch := omega) [if_pos, if_neg, iteK_pos, iteK_neg, h0, Shp.none]
 ·clear h1 h2 h3 h5 h6 h7 h8 h9 h10 h11 h12 h13 h14 h15
  generalize foldedF 4 (win c a e) = f at *
  by_cases h0 : f.len = 0 <;> simp (disch := omega) [if_pos, if_neg, iteK_pos, iteK_neg, Tryz.f25, hl, shapes, shapesV, clo, fnV, h4, h0]
  all_goals
   rw [iteK_pos (by kernel_rfl)]
   simp (disch := omega) [if_pos, if_neg, iteK_pos, iteK_neg, h0, Shp.none]
 ·clear h1 h2 h3 h4 h6 h7 h8 h9 h10 h11 h12 h13 h14 h15
  generalize behindGo binF true false (win c a e) 16 = f at *
  by_cases h0 : f.len = 0 <;> simp (disch := omega) [if_pos, if_neg, iteK_pos, iteK_neg, Tryz.f25, hl, shapes, shapesV, clo, fnV, h5, h0]
  all_goals
   rw [iteK_pos (by kernel_rfl)]
   simp (disch := omega) [if_pos, if_neg, iteK_pos, iteK_neg, h0, Shp.none]
 ·clear h1 h2 h3 h4 h5 h7 h8 h9 h10 h11 h12 h13 h14 h15
  generalize behindGo isCmpF true true (win c a e) 16 = f at *
  by_cases h0 : f.len = 0 <;> simp (disch := omega) [if_pos, if_neg, iteK_pos, iteK_neg, Tryz.f25, hl, shapes, shapesV, clo, fnV, h6, h0]
  all_goals
   rw [iteK_pos (by kernel_rfl)]
   simp (disch := omega) [if_pos, if_neg, iteK_pos, iteK_neg, h0, Shp.none]
 ·clear h1 h2 h3 h4 h5 h6 h8 h9 h10 h11 h12 h13 h14 h15
  generalize behindGo isArgF false true (win c a e) 16 = f at *
  by_cases h0 : f.len = 0 <;> simp (disch := omega) [if_pos, if_neg, iteK_pos, iteK_neg, Tryz.f25, hl, shapes, shapesV, clo, fnV, h7, h0]
  all_goals
   rw [iteK_pos (by kernel_rfl)]
   simp (disch := omega) [if_pos, if_neg, iteK_pos, iteK_neg, h0, Shp.none]
 ·clear h1 h2 h3 h4 h5 h6 h7 h9 h10 h11 h12 h13 h14 h15
  generalize behindGo isCallF false false (win c a e) 16 = f at *
  by_cases h0 : f.len = 0 <;> simp (disch := omega) [if_pos, if_neg, iteK_pos, iteK_neg, Tryz.f25, hl, shapes, shapesV, clo, fnV, h8, h0]
  all_goals
   rw [iteK_pos (by kernel_rfl)]
   simp (disch := omega) [if_pos, if_neg, iteK_pos, iteK_neg, h0, Shp.none]
 ·clear h1 h2 h3 h4 h5 h6 h7 h8 h10 h11 h12 h13 h14 h15
  generalize behindGo isLoadF true false (win c a e) 16 = f at *
  by_cases h0 : f.len = 0 <;> simp (disch := omega) [if_pos, if_neg, iteK_pos, iteK_neg, Tryz.f25, hl, shapes, shapesV, clo, fnV, h9, h0]
  all_goals
   rw [iteK_pos (by kernel_rfl)]
   simp (disch := omega) [if_pos, if_neg, iteK_pos, iteK_neg, h0, Shp.none]
 ·clear h1 h2 h3 h4 h5 h6 h7 h8 h9 h11 h12 h13 h14 h15
  generalize behindGo isStoreF true false (win c a e) 16 = f at *
  by_cases h0 : f.len = 0 <;> simp (disch := omega) [if_pos, if_neg, iteK_pos, iteK_neg, Tryz.f25, hl, shapes, shapesV, clo, fnV, h10, h0]
  all_goals
   rw [iteK_pos (by kernel_rfl)]
   simp (disch := omega) [if_pos, if_neg, iteK_pos, iteK_neg, h0, Shp.none]
 ·clear h1 h2 h3 h4 h5 h6 h7 h8 h9 h10 h12 h13 h14 h15
  generalize localF false isArgF false true (win c a e) = f at *
  by_cases h0 : f.len = 0 <;> simp (disch := omega) [if_pos, if_neg, iteK_pos, iteK_neg, Tryz.f25, hl, shapes, shapesV, clo, fnV, h11, h0]
  all_goals
   rw [iteK_pos (by kernel_rfl)]
   simp (disch := omega) [if_pos, if_neg, iteK_pos, iteK_neg, h0, Shp.none]
 ·clear h1 h2 h3 h4 h5 h6 h7 h8 h9 h10 h11 h13 h14 h15
  generalize localF false isLoadF true false (win c a e) = f at *
  by_cases h0 : f.len = 0 <;> simp (disch := omega) [if_pos, if_neg, iteK_pos, iteK_neg, Tryz.f25, hl, shapes, shapesV, clo, fnV, h12, h0]
  all_goals
   rw [iteK_pos (by kernel_rfl)]
   simp (disch := omega) [if_pos, if_neg, iteK_pos, iteK_neg, h0, Shp.none]
 ·clear h1 h2 h3 h4 h5 h6 h7 h8 h9 h10 h11 h12 h14 h15
  generalize localF true binF true false (win c a e) = f at *
  by_cases h0 : f.len = 0 <;> simp (disch := omega) [if_pos, if_neg, iteK_pos, iteK_neg, Tryz.f25, hl, shapes, shapesV, clo, fnV, h13, h0]
  all_goals
   rw [iteK_pos (by kernel_rfl)]
   simp (disch := omega) [if_pos, if_neg, iteK_pos, iteK_neg, h0, Shp.none]
 ·clear h1 h2 h3 h4 h5 h6 h7 h8 h9 h10 h11 h12 h13 h15
  generalize localF true isCmpF true true (win c a e) = f at *
  by_cases h0 : f.len = 0 <;> simp (disch := omega) [if_pos, if_neg, iteK_pos, iteK_neg, Tryz.f25, hl, shapes, shapesV, clo, fnV, h14, h0]
  all_goals
   rw [iteK_pos (by kernel_rfl)]
   simp (disch := omega) [if_pos, if_neg, iteK_pos, iteK_neg, h0, Shp.none]
 ·clear h1 h2 h3 h4 h5 h6 h7 h8 h9 h10 h11 h12 h13 h14
  generalize bumpF (win c a e) = f at *
  by_cases h0 : f.len = 0 <;> simp (disch := omega) [if_pos, if_neg, iteK_pos, iteK_neg, Tryz.f25, hl, shapes, shapesV, clo, fnV, h15, h0]
  all_goals
   rw [iteK_pos (by kernel_rfl)]
   simp (disch := omega) [if_pos, if_neg, iteK_pos, iteK_neg, h0, Shp.none]
end Go.Proofs.YtfplmcpkagpaiaaGreatDoor.Fl
end
