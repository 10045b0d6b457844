/-
  Package fuse: bump, the table of shapes, Fits, Longest.
  Package fuse: Fits, Longest.
-/
import Derived.Test.YtjmipgfaghjgmaaNh
import Derived.Test.YtjmipgfaghjgmaaMd
section
namespace Go.Proofs.Ytjmipgfaghjgmaa
open Go Go.Sim
set_option maxRecDepth 100000
set_option linter.unusedSimpArgs false
set_option linter.unusedVariables false
theorem neq_instr (x y : Operand) (a c b d : Int) : binO E .neq 36 x y (.agg [.int .u8 a, .int .u32 b]) (.agg [.int .u8 c, .int .u32 d]) = some (.bool !(a == c && b == d)) :=
  binO_neq (eqV_two (n := 196) (by rw [E_P]; exact Try.underlying36) (by kernel_rfl) rfl rfl rfl rfl (by rw [E_P]; simp) (by rw [E_P]; simp) (eqV_int (by rw [E_P]; simp)) (eqV_int (by rw [E_P]; simp)))
theorem Instr.eq_of {p q : Instr} (h1 : p.op = q.op) (h2 : p.arg = q.arg) : p = q := by
  cases p; cases q; cases h1; cases h2; rfl
def bumpGo (w : List Instr) : Nat → Shp
  | 0 => Shp.none
  | n + 1 =>
    let k := constF w 3 (n + 1)
    let op := (opF w (n + 4)).op
    if k.2 = true ∧ harmF op = true ∧ (opF w (n + 5)).op = 34 then ⟨n + 6, op, (opF w 0).arg, k.1⟩ else bumpGo w n
def bumpF (w : List Instr) : Shp := if (opF w 0).op = 9 ∧ opF w 0 = opF w 1 ∧ (opF w 2).op = 31 then bumpGo w 16 else Shp.none
set_option maxHeartbeats 1000000 in
theorem bump1 (lent) {c : List Instr} {a e : Nat} (L : Lies c a e) : pureV E (om E) 52 lent [stV c a e] = some (fsV (bumpF (win c a e))) := by
  have hC : ∀ (n : Nat), n < 100 → ∀ h, callV E (om E) 63 [stV c a e, .int .u32 3, .int .u32 n] h = some (.tuple [.int .u32 (constF (win c a e) 3 n).1, bb (constF (win c a e) 3 n).2], h) := fun n hn h => call_constS L 3 n (by omega) hn h
  have hO := fun (n : Nat) (hn : n < 4294967296) h => call_opS L n hn h
  have h0 : ∀ h, callV E (om E) 59 [stV c a e, .int .u32 0] h = some (insV (opF (win c a e) 0), h) := call_opS L 0 (by omega)
  have h1 : ∀ h, callV E (om E) 59 [stV c a e, .int .u32 1] h = some (insV (opF (win c a e) 1), h) := call_opS L 1 (by omega)
  have h2 : ∀ h, callV E (om E) 59 [stV c a e, .int .u32 2] h = some (insV (opF (win c a e) 2), h) := call_opS L 2 (by omega)
  unfold bumpF
  have hgo : ∀ n, bumpGo (win c a e) (n + 1) = (if (constF (win c a e) 3 (n + 1)).2 = true ∧ harmF (opF (win c a e) (n + 4)).op = true ∧ (opF (win c a e) (n + 5)).op = 34 then ⟨n + 6, (opF (win c a e) (n + 4)).op, (opF (win c a e) 0).arg, (constF (win c a e) 3 (n + 1)).1⟩ else bumpGo (win c a e) n) := fun n => rfl
  generalize hR : bumpGo (win c a e) 16 = R
  apply pu_52
  generalize opF (win c a e) 0 = p at *
  generalize opF (win c a e) 1 = q at *
  generalize opF (win c a e) 2 = q2 at *
  by_cases g0 : p.op = 9
  · have g0' : (p.op : Int) = 9 := by omega
    by_cases g1 : p = q
    · subst g1
      by_cases g2 : q2.op = 31
      · have g2' : (q2.op : Int) = 31 := by omega
        rw [if_pos ⟨g0, rfl, g2⟩]
        simp (disch := omega) [if_pos, if_neg, iteK_pos, iteK_neg, Try.f52, h0, h1, h2, eq_true g0', neq_instr, eq_true g2']
        refine loop_chg (dyn := []) (fun n : Nat => [(5, .int .u32 n)]) (fun _ => []) (fun _ => [])
          (fun n => n ≤ 16 ∧ R = bumpGo (win c a e) n) (fun n => n) hint_52_0 (by kernel_rfl) ?_ 16 ⟨by omega, hR.symm⟩ (by simp)
        clear hR
        rintro n ⟨hn, hf⟩ IH
        rw [lpB_eq]
        cases n with
        | zero =>
          rw [hf]
          clear IH
          simp (disch := omega) [if_pos, if_neg, iteK_pos, iteK_neg, bumpGo, Shp.none]
        | succ n =>
          have k1 := hC (n + 1) (by omega)
          have k2 := hO (n + 4) (by omega)
          have k3 := hO (n + 5) (by omega)
          rw [show ((n + 4 : Nat) : Int) = 3 + ((n : Int) + 1) by omega] at k2
          rw [show ((n + 5 : Nat) : Int) = 4 + ((n : Int) + 1) by omega] at k3
          simp only [Int.natCast_add, Int.natCast_one] at k1
          rw [hgo] at hf
          generalize constF (win c a e) 3 (n + 1) = k at *
          generalize opF (win c a e) (n + 4) = i at *
          generalize opF (win c a e) (n + 5) = j at *
          have hH : ∀ h, callV E (om E) 65 [.int .u8 i.op] h = some (bb (harmF i.op), h) := by intro h; simp (disch := omega) [if_pos, if_neg, iteK_pos, iteK_neg, fuse_harmless]
          by_cases e1 : k.2 = true
          · by_cases e2 : harmF i.op = true
            · by_cases e3 : j.op = 34
              · have e3' : (j.op : Int) = 34 := by omega
                rw [if_pos ⟨e1, e2, e3⟩] at hf
                rw [hf]
                clear IH
                simp (disch := omega) [if_pos, if_neg, iteK_pos, iteK_neg, k1, k2, k3, e1, e2, eq_true e3', hH]
                omega
              · rw [if_neg (by simp [e3])] at hf
                simp (disch := omega) [if_pos, if_neg, iteK_pos, iteK_neg, k1, k2, k3, e1, e2, e3, hH]
                exact IH n _ _ ⟨by omega, hf⟩ (by omega) (by simp)
            · rw [if_neg (by simp [e2])] at hf
              simp (disch := omega) [if_pos, if_neg, iteK_pos, iteK_neg, k1, k2, k3, e1, e2, hH]
              exact IH n _ _ ⟨by omega, hf⟩ (by omega) (by simp)
          · rw [if_neg (by simp [e1])] at hf
            simp (disch := omega) [if_pos, if_neg, iteK_pos, iteK_neg, k1, k2, k3, e1, hH]
            exact IH n _ _ ⟨by omega, hf⟩ (by omega) (by simp)
      · rw [if_neg (by simp [g2])]
        simp (disch := omega) [if_pos, if_neg, iteK_pos, iteK_neg, Try.f52, h0, h1, h2, eq_true g0', neq_instr, g2, Shp.none]
    · rw [if_neg (by simp [g1])]
      have g1' : (((p.op : Int) == q.op) && ((p.arg : Int) == q.arg)) = false := by
        rw [Bool.eq_false_iff]
        intro h
        rw [Bool.and_eq_true, beq_iff_eq, beq_iff_eq] at h
        exact g1 (Instr.eq_of (Int.natCast_inj.1 h.1) (Int.natCast_inj.1 h.2))
      have g3 : ∀ x y, binO E .neq 36 x y (insV p) (insV q) = some (.bool true) := fun x y => by rw [neq_instr, g1']; rfl
      simp (disch := omega) [if_pos, if_neg, iteK_pos, iteK_neg, Try.f52, h0, h1, h2, eq_true g0', g3, Shp.none]
  · rw [if_neg (by simp [g0])]
    simp (disch := omega) [if_pos, if_neg, iteK_pos, iteK_neg, Try.f52, h0, h1, g0, Shp.none]
/-- The array of shapes, by kind. -/
def clo (f : FuncId) (caps : List V) : V := .func (.func f) [] (caps.map fun v => .pcon [v] 0)
def fnV (f : FuncId) : V := .func (.func f) [] []
def shapesV : List V := [.nilfunc, fnV 38, clo 60 [.int .u8 2], clo 60 [.int .u8 3], clo 60 [.int .u8 4],
  clo 62 [fnV 41, fnV 42], clo 62 [fnV 43, fnV 44], clo 62 [fnV 45, fnV 46],
  clo 62 [fnV 47, fnV 48], clo 62 [fnV 49, fnV 42], clo 62 [fnV 50, fnV 42],
  clo 64 [bb false, fnV 45, fnV 46], clo 64 [bb false, fnV 49, fnV 42],
  clo 64 [bb true, fnV 41, fnV 42], clo 64 [bb true, fnV 43, fnV 44], fnV 52]
theorem shapes : pureV E (om E) 27 false [] = some (.agg shapesV) := pure_eval (n := 60) (by kernel_rfl)
end Go.Proofs.Ytjmipgfaghjgmaa
end
section
namespace Go.Proofs.Ytjmipgfaghjgmaa
open Go Go.Sim
set_option maxRecDepth 100000
set_option linter.unusedSimpArgs false
set_option linter.unusedVariables false
def isCmpF (op : Nat) : Bool := decide (13 ≤ op ∧ op ≤ 28)
def isLoadF (op : Nat) : Bool := decide (29 ≤ op ∧ op ≤ 31)
def isStoreF (op : Nat) : Bool := decide (32 ≤ op ∧ op ≤ 34)
def isArgF (op : Nat) : Bool := decide (op = 12)
def isCallF (op : Nat) : Bool := decide (op = 5)
/-- What a shape makes of a window. -/
def fitsF (w : List Instr) (k : Nat) : Shp :=
  match k with
  | 1 => oneS w
  | 2 => foldedF 2 w
  | 3 => foldedF 3 w
  | 4 => foldedF 4 w
  | 5 => behindGo binF true false w 16
  | 6 => behindGo isCmpF true true w 16
  | 7 => behindGo isArgF false true w 16
  | 8 => behindGo isCallF false false w 16
  | 9 => behindGo isLoadF true false w 16
  | 10 => behindGo isStoreF true false w 16
  | 11 => localF false isArgF false true w
  | 12 => localF false isLoadF true false w
  | 13 => localF true binF true false w
  | 14 => localF true isCmpF true true w
  | 15 => bumpF w
  | _ => Shp.none
abbrev fusedV (at_ : Nat) (k : Nat) (f : Shp) : V := .agg [.int .u32 at_, .int .u32 f.len, .int .u8 k, .int .u8 f.op, .int .u32 f.a, .int .u32 f.b]
theorem cBin (op : Nat) (h : Heap) : callV E (om E) 41 [.int .u8 op] h = some (bb (binF op), h) := by simp (disch := omega) [if_pos, if_neg, iteK_pos, iteK_neg, fuse_binary]
theorem cCmp (op : Nat) (h : Heap) : callV E (om E) 43 [.int .u8 op] h = some (bb (isCmpF op), h) := by simp (disch := omega) [if_pos, if_neg, iteK_pos, iteK_neg, fuse_comparison, isCmpF]
theorem cArg (op : Nat) (h : Heap) : callV E (om E) 45 [.int .u8 op] h = some (bb (isArgF op), h) := by simp (disch := omega) [if_pos, if_neg, iteK_pos, iteK_neg, fuse_arg, isArgF]
theorem cCall (op : Nat) (h : Heap) : callV E (om E) 47 [.int .u8 op] h = some (bb (isCallF op), h) := by simp (disch := omega) [if_pos, if_neg, iteK_pos, iteK_neg, fuse_call, isCallF]
theorem cLoad (op : Nat) (h : Heap) : callV E (om E) 49 [.int .u8 op] h = some (bb (isLoadF op), h) := by simp (disch := omega) [if_pos, if_neg, iteK_pos, iteK_neg, fuse_load, isLoadF]
theorem cStore (op : Nat) (h : Heap) : callV E (om E) 50 [.int .u8 op] h = some (bb (isStoreF op), h) := by simp (disch := omega) [if_pos, if_neg, iteK_pos, iteK_neg, fuse_store, isStoreF]
theorem kOp (f i h) : callV E (om E) 42 [fsV f, insV i] h = some (fsV (keepF true false f i), h) := by simp (disch := omega) [if_pos, if_neg, iteK_pos, iteK_neg, fuse_withOp]
theorem kArg (f i h) : callV E (om E) 46 [fsV f, insV i] h = some (fsV (keepF false true f i), h) := by simp (disch := omega) [if_pos, if_neg, iteK_pos, iteK_neg, fuse_withArg]
theorem kBoth (f i h) : callV E (om E) 44 [fsV f, insV i] h = some (fsV (keepF true true f i), h) := by simp (disch := omega) [if_pos, if_neg, iteK_pos, iteK_neg, fuse_withBoth]
theorem kAlone (f i h) : callV E (om E) 48 [fsV f, insV i] h = some (fsV (keepF false false f i), h) := by simp (disch := omega) [if_pos, if_neg, iteK_pos, iteK_neg, fuse_alone]
section
variable {c : List Instr} {a e : Nat}
theorem cBehind (L : Lies c a e) {g gk : FuncId} {is : Nat → Bool} {o b : Bool} (hg : ∀ (op : Nat) h, callV E (om E) g [.int .u8 op] h = some (bb (is op), h)) (hk : ∀ f i h, callV E (om E) gk [fsV f, insV i] h = some (fsV (keepF o b f i), h)) (h : Heap) :
    callV E (om E) 62 [stV c a e, .pcon [.func (.func g) [] []] 0, .pcon [.func (.func gk) [] []] 0] h = some (fsV (behindGo is o b (win c a e) 16), h) := by
  have := behind1 false L hg hk
  simp (disch := omega) [if_pos, if_neg, iteK_pos, iteK_neg, this]
theorem cLocal (L : Lies c a e) {g gk : FuncId} {is : Nat → Bool} {o b : Bool} (ld : Bool) (hg : ∀ (op : Nat) h, callV E (om E) g [.int .u8 op] h = some (bb (is op), h)) (hk : ∀ f i h, callV E (om E) gk [fsV f, insV i] h = some (fsV (keepF o b f i), h)) (h : Heap) :
    callV E (om E) 64 [stV c a e, .pcon [bb ld] 0, .pcon [.func (.func g) [] []] 0, .pcon [.func (.func gk) [] []] 0] h = some (fsV (localF ld is o b (win c a e)), h) := by
  have := local1 false L ld hg hk
  simp (disch := omega) [if_pos, if_neg, iteK_pos, iteK_neg, this]
theorem cFolded (L : Lies c a e) (kind : Nat) (hk : 1 ≤ kind) (h : Heap) : callV E (om E) 60 [stV c a e, .pcon [.int .u8 kind] 0] h = some (fsV (foldedF kind (win c a e)), h) := by simp (disch := omega) [if_pos, if_neg, iteK_pos, iteK_neg, folded1 false L kind hk]
theorem cOne (L : Lies c a e) (h : Heap) : callV E (om E) 38 [stV c a e] h = some (fsV (oneS (win c a e)), h) := by simp (disch := omega) [if_pos, if_neg, iteK_pos, iteK_neg, one1 false L]
theorem cBump (L : Lies c a e) (h : Heap) : callV E (om E) 52 [stV c a e] h = some (fsV (bumpF (win c a e)), h) := by simp (disch := omega) [if_pos, if_neg, iteK_pos, iteK_neg, bump1 false L]
end
theorem cShapes (h : Heap) : callV E (om E) 27 [] h = some (.agg shapesV, h) := by simp (disch := omega) [if_pos, if_neg, iteK_pos, iteK_neg, shapes]
set_option maxHeartbeats 4000000 in
theorem Fits (lent) {c : List Instr} {a e : Nat} (L : Lies c a e) (k : Nat) (hk : 1 ≤ k) (hk' : k ≤ 15) : pureV E (om E) 15 lent [lst eInstr c, .int .u32 a, .int .u32 e, .int .u8 k] =
    some (.tuple (if (fitsF (win c a e) k).len = 0 then [fusedV 0 0 Shp.none, bb false] else [fusedV a k (fitsF (win c a e) k), bb true])) := by
  have hl := fun lent => lies lent c a e (by have := L.lt; have := L.small; omega) L.small L.short
  rw [show decide (a < e ∧ e ≤ c.length) = true by simp [L.lt, L.le]] at hl
  have hkk : k = 1 ∨ k = 2 ∨ k = 3 ∨ k = 4 ∨ k = 5 ∨ k = 6 ∨ k = 7 ∨ k = 8 ∨ k = 9 ∨ k = 10 ∨ k = 11 ∨ k = 12 ∨ k = 13 ∨ k = 14 ∨ k = 15 := by omega
  have h1 := fun h => cOne L h
  have h2 : ∀ h, callV E (om E) 60 [stV c a e, .pcon [.int .u8 2] 0] h = some (fsV (foldedF 2 (win c a e)), h) := fun h => cFolded L 2 (by omega) h
  have h3 : ∀ h, callV E (om E) 60 [stV c a e, .pcon [.int .u8 3] 0] h = some (fsV (foldedF 3 (win c a e)), h) := fun h => cFolded L 3 (by omega) h
  have h4 : ∀ h, callV E (om E) 60 [stV c a e, .pcon [.int .u8 4] 0] h = some (fsV (foldedF 4 (win c a e)), h) := fun h => cFolded L 4 (by omega) h
  have h5 := fun h => cBehind L cBin kOp h
  have h6 := fun h => cBehind L cCmp kBoth h
  have h7 := fun h => cBehind L cArg kArg h
  have h8 := fun h => cBehind L cCall kAlone h
  have h9 := fun h => cBehind L cLoad kOp h
  have h10 := fun h => cBehind L cStore kOp h
  have h11 := fun h => cLocal L false cArg kArg h
  have h12 := fun h => cLocal L false cLoad kOp h
  have h13 := fun h => cLocal L true cBin kOp h
  have h14 := fun h => cLocal L true cCmp kBoth h
  have h15 := fun h => cBump L h
  clear L
  apply pu_15
  rcases hkk with rfl | rfl | rfl | rfl | rfl | rfl | rfl | rfl | rfl | rfl | rfl | rfl | rfl | rfl | rfl
  all_goals
    simp only [fitsF]
  · clear h2 h3 h4 h5 h6 h7 h8 h9 h10 h11 h12 h13 h14 h15
    generalize oneS (win c a e) = f at *
    by_cases h0 : f.len = 0 <;> simp (disch := omega) [if_pos, if_neg, iteK_pos, iteK_neg, Try.f15, hl, shapes, shapesV, clo, fnV, h1, h0]
    all_goals
      rw [iteK_pos (by kernel_rfl)]
      simp (disch := omega) [if_pos, if_neg, iteK_pos, iteK_neg, h0, Shp.none]
  · clear h1 h3 h4 h5 h6 h7 h8 h9 h10 h11 h12 h13 h14 h15
    generalize foldedF 2 (win c a e) = f at *
    by_cases h0 : f.len = 0 <;> simp (disch := omega) [if_pos, if_neg, iteK_pos, iteK_neg, Try.f15, hl, shapes, shapesV, clo, fnV, h2, h0]
    all_goals
      rw [iteK_pos (by kernel_rfl)]
      simp (disch := omega) [if_pos, if_neg, iteK_pos, iteK_neg, h0, Shp.none]
  · clear h1 h2 h4 h5 h6 h7 h8 h9 h10 h11 h12 h13 h14 h15
    generalize foldedF 3 (win c a e) = f at *
    by_cases h0 : f.len = 0 <;> simp (disch := omega) [if_pos, if_neg, iteK_pos, iteK_neg, Try.f15, hl, shapes, shapesV, clo, fnV, h3, h0]
    all_goals
      rw [iteK_pos (by kernel_rfl)]
      simp (disch := omega) [if_pos, if_neg, iteK_pos, iteK_neg, h0, Shp.none]
  · clear h1 h2 h3 h5 h6 h7 h8 h9 h10 h11 h12 h13 h14 h15
    generalize foldedF 4 (win c a e) = f at *
    by_cases h0 : f.len = 0 <;> simp (disch := omega) [if_pos, if_neg, iteK_pos, iteK_neg, Try.f15, hl, shapes, shapesV, clo, fnV, h4, h0]
    all_goals
      rw [iteK_pos (by kernel_rfl)]
      simp (disch := omega) [if_pos, if_neg, iteK_pos, iteK_neg, h0, Shp.none]
  · clear h1 h2 h3 h4 h6 h7 h8 h9 h10 h11 h12 h13 h14 h15
    generalize behindGo binF true false (win c a e) 16 = f at *
    by_cases h0 : f.len = 0 <;> simp (disch := omega) [if_pos, if_neg, iteK_pos, iteK_neg, Try.f15, hl, shapes, shapesV, clo, fnV, h5, h0]
    all_goals
      rw [iteK_pos (by kernel_rfl)]
      simp (disch := omega) [if_pos, if_neg, iteK_pos, iteK_neg, h0, Shp.none]
  · clear h1 h2 h3 h4 h5 h7 h8 h9 h10 h11 h12 h13 h14 h15
    generalize behindGo isCmpF true true (win c a e) 16 = f at *
    by_cases h0 : f.len = 0 <;> simp (disch := omega) [if_pos, if_neg, iteK_pos, iteK_neg, Try.f15, hl, shapes, shapesV, clo, fnV, h6, h0]
    all_goals
      rw [iteK_pos (by kernel_rfl)]
      simp (disch := omega) [if_pos, if_neg, iteK_pos, iteK_neg, h0, Shp.none]
  · clear h1 h2 h3 h4 h5 h6 h8 h9 h10 h11 h12 h13 h14 h15
    generalize behindGo isArgF false true (win c a e) 16 = f at *
    by_cases h0 : f.len = 0 <;> simp (disch := omega) [if_pos, if_neg, iteK_pos, iteK_neg, Try.f15, hl, shapes, shapesV, clo, fnV, h7, h0]
    all_goals
      rw [iteK_pos (by kernel_rfl)]
      simp (disch := omega) [if_pos, if_neg, iteK_pos, iteK_neg, h0, Shp.none]
  · clear h1 h2 h3 h4 h5 h6 h7 h9 h10 h11 h12 h13 h14 h15
    generalize behindGo isCallF false false (win c a e) 16 = f at *
    by_cases h0 : f.len = 0 <;> simp (disch := omega) [if_pos, if_neg, iteK_pos, iteK_neg, Try.f15, hl, shapes, shapesV, clo, fnV, h8, h0]
    all_goals
      rw [iteK_pos (by kernel_rfl)]
      simp (disch := omega) [if_pos, if_neg, iteK_pos, iteK_neg, h0, Shp.none]
  · clear h1 h2 h3 h4 h5 h6 h7 h8 h10 h11 h12 h13 h14 h15
    generalize behindGo isLoadF true false (win c a e) 16 = f at *
    by_cases h0 : f.len = 0 <;> simp (disch := omega) [if_pos, if_neg, iteK_pos, iteK_neg, Try.f15, hl, shapes, shapesV, clo, fnV, h9, h0]
    all_goals
      rw [iteK_pos (by kernel_rfl)]
      simp (disch := omega) [if_pos, if_neg, iteK_pos, iteK_neg, h0, Shp.none]
  · clear h1 h2 h3 h4 h5 h6 h7 h8 h9 h11 h12 h13 h14 h15
    generalize behindGo isStoreF true false (win c a e) 16 = f at *
    by_cases h0 : f.len = 0 <;> simp (disch := omega) [if_pos, if_neg, iteK_pos, iteK_neg, Try.f15, hl, shapes, shapesV, clo, fnV, h10, h0]
    all_goals
      rw [iteK_pos (by kernel_rfl)]
      simp (disch := omega) [if_pos, if_neg, iteK_pos, iteK_neg, h0, Shp.none]
  · clear h1 h2 h3 h4 h5 h6 h7 h8 h9 h10 h12 h13 h14 h15
    generalize localF false isArgF false true (win c a e) = f at *
    by_cases h0 : f.len = 0 <;> simp (disch := omega) [if_pos, if_neg, iteK_pos, iteK_neg, Try.f15, hl, shapes, shapesV, clo, fnV, h11, h0]
    all_goals
      rw [iteK_pos (by kernel_rfl)]
      simp (disch := omega) [if_pos, if_neg, iteK_pos, iteK_neg, h0, Shp.none]
  · clear h1 h2 h3 h4 h5 h6 h7 h8 h9 h10 h11 h13 h14 h15
    generalize localF false isLoadF true false (win c a e) = f at *
    by_cases h0 : f.len = 0 <;> simp (disch := omega) [if_pos, if_neg, iteK_pos, iteK_neg, Try.f15, hl, shapes, shapesV, clo, fnV, h12, h0]
    all_goals
      rw [iteK_pos (by kernel_rfl)]
      simp (disch := omega) [if_pos, if_neg, iteK_pos, iteK_neg, h0, Shp.none]
  · clear h1 h2 h3 h4 h5 h6 h7 h8 h9 h10 h11 h12 h14 h15
    generalize localF true binF true false (win c a e) = f at *
    by_cases h0 : f.len = 0 <;> simp (disch := omega) [if_pos, if_neg, iteK_pos, iteK_neg, Try.f15, hl, shapes, shapesV, clo, fnV, h13, h0]
    all_goals
      rw [iteK_pos (by kernel_rfl)]
      simp (disch := omega) [if_pos, if_neg, iteK_pos, iteK_neg, h0, Shp.none]
  · clear h1 h2 h3 h4 h5 h6 h7 h8 h9 h10 h11 h12 h13 h15
    generalize localF true isCmpF true true (win c a e) = f at *
    by_cases h0 : f.len = 0 <;> simp (disch := omega) [if_pos, if_neg, iteK_pos, iteK_neg, Try.f15, hl, shapes, shapesV, clo, fnV, h14, h0]
    all_goals
      rw [iteK_pos (by kernel_rfl)]
      simp (disch := omega) [if_pos, if_neg, iteK_pos, iteK_neg, h0, Shp.none]
  · clear h1 h2 h3 h4 h5 h6 h7 h8 h9 h10 h11 h12 h13 h14
    generalize bumpF (win c a e) = f at *
    by_cases h0 : f.len = 0 <;> simp (disch := omega) [if_pos, if_neg, iteK_pos, iteK_neg, Try.f15, hl, shapes, shapesV, clo, fnV, h15, h0]
    all_goals
      rw [iteK_pos (by kernel_rfl)]
      simp (disch := omega) [if_pos, if_neg, iteK_pos, iteK_neg, h0, Shp.none]
end Go.Proofs.Ytjmipgfaghjgmaa
end
