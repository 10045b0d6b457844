/-
 Package fuse: stretches.
 Package fuse: what is asked of an operation; what is kept; the shapes.
 Package fuse: the shapes.
 Package fuse: bump, the table of shapes, Fits, Longest.
-/
import Derived.Test.YtfplmcpkagpaiaaGreatDoorFb
import Derived.Test.YtfplmcpkagpaiaaGreatDoorMe
set_option maxRecDepth 100000
set_option linter.unusedSimpArgs false
set_option linter.unusedVariables false
section
namespace Go.Proofs.YtfplmcpkagpaiaaGreatDoor.Fl
open Go Go.Sim
def i0 : Instr := ⟨0, 0⟩
def opF (w : List Instr) (n : Nat) : Instr := match w[n]? with | some i => if insBad i = 0 then i else i0 | none => i0
theorem win_get (c : List Instr) (a e n : Nat) : (win c a e)[n]? = if a + n < e then c[a + n]? else none := by
 unfold win
 rw [List.getElem?_drop]
 by_cases h : a + n < e
 ·rw [List.getElem?_take_of_lt h, if_pos h]
 ·rw [List.getElem?_eq_none (by simp; omega), if_neg h]
theorem win_length {c : List Instr} {a e : Nat} (he : e ≤ c.length) : (win c a e).length = e - a := by unfold win; simp; omega
theorem win_sub {c : List Instr} {a e f n : Nat} (h : a + f + n ≤ e) : win c (a + f) (a + f + n) = ((win c a e).drop f).take n := by
 apply List.ext_getElem?
 intro i
 rw [win_get, List.getElem?_take]
 by_cases hi : i < n
 ·rw [if_pos (by omega), if_pos hi, List.getElem?_drop, win_get, if_pos (by omega)]
  congr 1; omega
 ·rw [if_neg (by omega), if_neg hi]
abbrev stV (c : List Instr) (a e : Nat) : V := .agg [lst eInstr c, .int .u32 a, .int .u32 e]
structure Lies (c : List Instr) (a e : Nat) : Prop where
 lt : a < e
 le : e ≤ c.length
 small : e < 4294967296
 short : c.length < 2 ^ 63
theorem lies (lent) (c : List Instr) (a e : Nat) (ha : a < 4294967296) (he : e < 4294967296) (hl : c.length < 2 ^ 63) : pureV E (om E) 63 lent [stV c a e] = some (bb (decide (a < e ∧ e ≤ c.length))) := by
 apply pu_63
 by_cases h1 : a < e <;> by_cases h2 : e ≤ c.length <;> simp (disch := omega) [if_pos, if_neg, iteK_pos, iteK_neg, Tryz.f63, h1, h2]
theorem opS (lent) {c : List Instr} {a e : Nat} (L : Lies c a e) (n : Nat) (hn : n < 4294967296) : pureV E (om E) 114 lent [stV c a e, .int .u32 n] = some (insV (opF (win c a e) n)) := by
 obtain ⟨ha, he, hs, hl⟩ := L
 apply pu_114
 unfold opF
 rw [win_get]
 by_cases h1 : a + n < e
 ·rw [if_pos h1, List.getElem?_eq_getElem (by omega)]
  have hN : ((a : Int) + n).toNat = a + n := by omega
  by_cases h2 : insBad c[a + n] = 0
  ·simp (disch := omega) [if_pos, if_neg, iteK_pos, iteK_neg, Tryz.f114, h1, h2, IsaCheck, hN]
  ·simp (disch := omega) [if_pos, if_neg, iteK_pos, iteK_neg, Tryz.f114, h1, h2, IsaCheck, hN, i0]
 ·rw [if_neg h1]
  simp (disch := omega) [if_pos, if_neg, iteK_pos, iteK_neg, Tryz.f114, h1, i0]
def constF (w : List Instr) (f n : Nat) : Nat × Bool :=
 if n < 1 ∨ w.length < f + n then (0, false) else
 if n = 1 then ((opF w f).arg, decide ((opF w f).op = 8)) else
 match foldF ((w.drop f).take n) with
 | .ok p => (p.2.2, decide (p.2.1 = 2 ∧ p.1 = n))
 | .error _ => (0, false)
set_option maxHeartbeats 1000000 in
theorem constS (lent) {c : List Instr} {a e : Nat} (L : Lies c a e) (f n : Nat) (hf : f < 100) (hn : n < 100) : pureV E (om E) 118 lent [stV c a e, .int .u32 f, .int .u32 n] = some (.tuple [.int .u32 (constF (win c a e) f n).1, bb (constF (win c a e) f n).2]) := by
 have hlen := win_length (a := a) L.le
 have hop := fun lent n => opS lent L n
 have hlt := L.lt
 have hle := L.le
 have hsm := L.small
 have hsh := L.short
 apply pu_118
 unfold constF
 rw [hlen]
 by_cases h1 : n < 1
 ·simp (disch := omega) [if_pos, if_neg, iteK_pos, iteK_neg, Tryz.f118, h1]
 by_cases h2 : e - a < f + n
 ·simp (disch := omega) [if_pos, if_neg, iteK_pos, iteK_neg, Tryz.f118, h1, h2]
 by_cases h3 : n = 1
 ·subst h3
  rw [if_neg (by omega), if_pos rfl]
  by_cases h4 : (opF (win c a e) f).op = 8
  ·simp (disch := omega) [if_pos, if_neg, iteK_pos, iteK_neg, Tryz.f118, h2, hop, h4]
  ·simp (disch := omega) [if_pos, if_neg, iteK_pos, iteK_neg, Tryz.f118, h2, hop, h4]
   omega
 ·rw [if_neg (by omega), if_neg h3]
  have hfl := fun lent => FoldLongest lent c (a + f) (a + f + n) hsh (by omega) (by omega) (by omega)
  have hws := win_sub (c := c) (a := a) (e := e) (f := f) (n := n) (by omega)
  rw [hws] at hfl
  simp only [Int.natCast_add] at hfl
  cases hr : foldF (((win c a e).drop f).take n) with
  | ok p =>
   rw [hr] at hfl
   by_cases h4 : p.2.1 = 2 <;> by_cases h5 : p.1 = n <;> simp (disch := omega) [if_pos, if_neg, iteK_pos, iteK_neg, Tryz.f118, h1, h2, h3, hfl, h4, h5]
   omega
  | error e =>
   rw [hr] at hfl
   by_cases h6 : e = 0 <;> simp (disch := omega) [if_pos, if_neg, iteK_pos, iteK_neg, h6, Tryz.f118, h1, h2, h3, hfl]
end Go.Proofs.YtfplmcpkagpaiaaGreatDoor.Fl
end
section
namespace Go.Proofs.YtfplmcpkagpaiaaGreatDoor.Fl
open Go Go.Sim
structure Shp where
 len : Nat
 op : Nat
 a : Nat
 b : Nat
 deriving DecidableEq, Inhabited
def Shp.none : Shp := ⟨0, 0, 0, 0⟩
abbrev fsV (f : Shp) : V := .agg [.int .u32 0, .int .u32 f.len, .int .u8 0, .int .u8 f.op, .int .u32 f.a, .int .u32 f.b]
def binF (op : Nat) : Bool := isOp op && decide (kindF op = 1 ∧ takesF op = 2 ∧ givesF op = 1)
theorem fuse_binary (lent) (op : Nat) : pureV E (om E) 89 lent [.int .u8 op] = some (bb (binF op)) := by
 apply pu_89
 unfold binF
 cases h : isOp op
 ·simp (disch := omega) [if_pos, if_neg, iteK_pos, iteK_neg, Tryz.f89, Info, h, kind_eq, takes_eq, gives_eq]
 ·by_cases h1 : kindF op = 1 <;> by_cases h2 : takesF op = 2 <;> by_cases h3 : givesF op = 1 <;> first | (exfalso; omega) | (simp (disch := omega) [if_pos, if_neg, iteK_pos, iteK_neg, Tryz.f89, Info, h, kind_eq, takes_eq, gives_eq, h1, h2, h3]; done) | (simp (disch := omega) [if_pos, if_neg, iteK_pos, iteK_neg, Tryz.f89, Info, h, kind_eq, takes_eq, gives_eq, h1, h2, h3]; omega)
theorem fuse_comparison (lent) (op : Nat) : pureV E (om E) 91 lent [.int .u8 op] = some (bb (decide (13 ≤ op ∧ op ≤ 28))) := by
 apply pu_91
 by_cases h1 : 13 ≤ op <;> by_cases h2 : op ≤ 28 <;> first | (exfalso; omega) | (simp (disch := omega) [if_pos, if_neg, iteK_pos, iteK_neg, Tryz.f91, h1, h2]; done) | (simp (disch := omega) [if_pos, if_neg, iteK_pos, iteK_neg, Tryz.f91, h1, h2]; omega)
theorem fuse_load (lent) (op : Nat) : pureV E (om E) 97 lent [.int .u8 op] = some (bb (decide (29 ≤ op ∧ op ≤ 31))) := by
 apply pu_97
 by_cases h1 : 29 ≤ op <;> by_cases h2 : op ≤ 31 <;> first | (exfalso; omega) | (simp (disch := omega) [if_pos, if_neg, iteK_pos, iteK_neg, Tryz.f97, h1, h2]; done) | (simp (disch := omega) [if_pos, if_neg, iteK_pos, iteK_neg, Tryz.f97, h1, h2]; omega)
theorem fuse_store (lent) (op : Nat) : pureV E (om E) 98 lent [.int .u8 op] = some (bb (decide (32 ≤ op ∧ op ≤ 34))) := by
 apply pu_98
 by_cases h1 : 32 ≤ op <;> by_cases h2 : op ≤ 34 <;> first | (exfalso; omega) | (simp (disch := omega) [if_pos, if_neg, iteK_pos, iteK_neg, Tryz.f98, h1, h2]; done) | (simp (disch := omega) [if_pos, if_neg, iteK_pos, iteK_neg, Tryz.f98, h1, h2]; omega)
theorem fuse_call (lent) (op : Nat) : pureV E (om E) 95 lent [.int .u8 op] = some (bb (decide (op = 5))) := by
 apply pu_95
 by_cases h1 : op = 5 <;> first | (exfalso; omega) | (simp (disch := omega) [if_pos, if_neg, iteK_pos, iteK_neg, Tryz.f95, h1]; done) | (simp (disch := omega) [if_pos, if_neg, iteK_pos, iteK_neg, Tryz.f95, h1]; omega)
theorem fuse_arg (lent) (op : Nat) : pureV E (om E) 93 lent [.int .u8 op] = some (bb (decide (op = 12))) := by
 apply pu_93
 by_cases h1 : op = 12 <;> first | (exfalso; omega) | (simp (disch := omega) [if_pos, if_neg, iteK_pos, iteK_neg, Tryz.f93, h1]; done) | (simp (disch := omega) [if_pos, if_neg, iteK_pos, iteK_neg, Tryz.f93, h1]; omega)
def harmF (op : Nat) : Bool := binF op && decide (op < 42 ∨ 45 < op)
theorem fuse_harmless (lent) (op : Nat) : pureV E (om E) 120 lent [.int .u8 op] = some (bb (harmF op)) := by
 apply pu_120
 unfold harmF
 cases h : binF op
 ·simp (disch := omega) [if_pos, if_neg, iteK_pos, iteK_neg, Tryz.f120, fuse_binary, h]
 ·by_cases h1 : op < 42 <;> by_cases h2 : 45 < op <;> first | (exfalso; omega) | (simp (disch := omega) [if_pos, if_neg, iteK_pos, iteK_neg, Tryz.f120, fuse_binary, h, h1, h2]; done) | (simp (disch := omega) [if_pos, if_neg, iteK_pos, iteK_neg, Tryz.f120, fuse_binary, h, h1, h2]; omega)
def keepF (o b : Bool) (f : Shp) (i : Instr) : Shp := ⟨f.len, if o then i.op else f.op, f.a, if b then i.arg else f.b⟩
theorem fuse_withOp (lent) (f : Shp) (i : Instr) : pureV E (om E) 90 lent [fsV f, insV i] = some (fsV (keepF true false f i)) := by
 apply pu_90
 simp (disch := omega) [if_pos, if_neg, iteK_pos, iteK_neg, Tryz.f90, keepF]
theorem fuse_withArg (lent) (f : Shp) (i : Instr) : pureV E (om E) 94 lent [fsV f, insV i] = some (fsV (keepF false true f i)) := by
 apply pu_94
 simp (disch := omega) [if_pos, if_neg, iteK_pos, iteK_neg, Tryz.f94, keepF]
theorem fuse_withBoth (lent) (f : Shp) (i : Instr) : pureV E (om E) 92 lent [fsV f, insV i] = some (fsV (keepF true true f i)) := by
 apply pu_92
 have h1 := fun lent => fuse_withOp lent f i
 have h2 := fun lent => fuse_withArg lent (keepF true false f i) i
 simp only [keepF, if_true, Bool.false_eq_true, if_false] at h1 h2
 simp (disch := omega) [if_pos, if_neg, iteK_pos, iteK_neg, Tryz.f92, keepF, h1, h2]
theorem fuse_alone (lent) (f : Shp) (i : Instr) : pureV E (om E) 96 lent [fsV f, insV i] = some (fsV (keepF false false f i)) := by
 apply pu_96
 simp (disch := omega) [if_pos, if_neg, iteK_pos, iteK_neg, Tryz.f96, keepF]
end Go.Proofs.YtfplmcpkagpaiaaGreatDoor.Fl
end
section
namespace Go.Proofs.YtfplmcpkagpaiaaGreatDoor.Fl
open Go Go.Sim
theorem call_constS {c : List Instr} {a e : Nat} (L : Lies c a e) (f n : Nat) (hf : f < 100) (hn : n < 100) (h : Heap) : callV E (om E) 118 [stV c a e, .int .u32 f, .int .u32 n] h = some (.tuple [.int .u32 (constF (win c a e) f n).1, bb (constF (win c a e) f n).2], h) := by
 simp (disch := omega) [if_pos, if_neg, iteK_pos, iteK_neg, constS false L f n hf hn]
theorem call_opS {c : List Instr} {a e : Nat} (L : Lies c a e) (n : Nat) (hn : n < 4294967296) (h : Heap) : callV E (om E) 114 [stV c a e, .int .u32 n] h = some (insV (opF (win c a e) n), h) := by
 simp (disch := omega) [if_pos, if_neg, iteK_pos, iteK_neg, opS false L n hn]
def behindGo (is : Nat → Bool) (o b : Bool) (w : List Instr) : Nat → Shp
 | 0 => Shp.none
 | n + 1 =>
  let k := constF w 0 (n + 1)
  let i := opF w (n + 1)
  if k.2 = true ∧ is i.op = true then keepF o b ⟨n + 2, 0, k.1, 0⟩ i else behindGo is o b w n
set_option maxHeartbeats 1000000 in
theorem behind1 (lent) {c : List Instr} {a e : Nat} (L : Lies c a e) {g gk : FuncId} {is : Nat → Bool} {o b : Bool} (hg : ∀ (op : Nat) h, callV E (om E) g [.int .u8 op] h = some (bb (is op), h)) (hk : ∀ f i h, callV E (om E) gk [fsV f, insV i] h = some (fsV (keepF o b f i), h)) :
  pureV E (om E) 117 lent [stV c a e, .pcon [.func (.func g) [] []] 0, .pcon [.func (.func gk) [] []] 0] = some (fsV (behindGo is o b (win c a e) 16)) := by
 have hC : ∀ (n : Nat), n < 100 → ∀ h, callV E (om E) 118 [stV c a e, .int .u32 0, .int .u32 n] h = some (.tuple [.int .u32 (constF (win c a e) 0 n).1, bb (constF (win c a e) 0 n).2], h) := fun n hn h => call_constS L 0 n (by omega) hn h
 have hO := fun (n : Nat) (hn : n < 4294967296) h => call_opS L n hn h
 generalize hR : behindGo is o b (win c a e) 16 = R
 apply pu_117
 simp (disch := omega) [if_pos, if_neg, iteK_pos, iteK_neg, Tryz.f117]
 refine loop_chg (dyn := []) (fun n : Nat => [(5, .int .u32 n)]) (fun _ => []) (fun _ => [])
  (fun n => n ≤ 16 ∧ R = behindGo is o b (win c a e) n) (fun n => n) hint_117_0 (by kernel_rfl) ?_ 16 ⟨by omega, hR.symm⟩ (by simp)
 clear hR
 rintro n ⟨hn, hf⟩ IH
 rw [lpB_eq]
 cases n with
 | zero =>
  rw [hf]
  clear IH
  simp (disch := omega) [if_pos, if_neg, iteK_pos, iteK_neg, behindGo, Shp.none]
 | succ n =>
  have h1 := hC (n + 1) (by omega)
  have h2 := hO (n + 1) (by omega)
  simp only [Int.natCast_add, Int.natCast_one] at h1 h2
  rw [behindGo] at hf
  generalize constF (win c a e) 0 (n + 1) = k at *
  generalize opF (win c a e) (n + 1) = i at *
  by_cases g1 : k.2 = true
  ·by_cases g2 : is i.op = true
   ·rw [if_pos ⟨g1, g2⟩] at hf
    rw [hf]
    clear IH
    have h3 : ∀ h, callV E (om E) gk [.agg [.int .u32 0, .int .u32 ((n : Int) + 1 + 1), .int .u8 0, .int .u8 0, .int .u32 k.1, .int .u32 0], insV i] h = some (fsV (keepF o b ⟨n + 2, 0, k.1, 0⟩ i), h) := by
     intro h
     rw [show ((n : Int) + 1 + 1) = ((n + 2 : Nat) : Int) by omega]
     exact hk ⟨n + 2, 0, k.1, 0⟩ i h
    simp (disch := omega) [if_pos, if_neg, iteK_pos, iteK_neg, h1, h2, g1, g2, hg, h3]
   ·rw [if_neg (by simp [g2])] at hf
    simp (disch := omega) [if_pos, if_neg, iteK_pos, iteK_neg, h1, h2, g1, g2, hg]
    exact IH n _ _ ⟨by omega, hf⟩ (by omega) (by simp)
  ·rw [if_neg (by simp [g1])] at hf
   simp (disch := omega) [if_pos, if_neg, iteK_pos, iteK_neg, h1, h2, g1, hg]
   exact IH n _ _ ⟨by omega, hf⟩ (by omega) (by simp)
def localF (loaded : Bool) (is : Nat → Bool) (o b : Bool) (w : List Instr) : Shp :=
 let n := if loaded then 2 else 1
 if (opF w 0).op = 9 ∧ is (opF w n).op = true ∧ (loaded = true → (opF w 1).op = 31) then keepF o b ⟨n + 1, 0, (opF w 0).arg, 0⟩ (opF w n) else Shp.none
set_option maxHeartbeats 1000000 in
theorem local1 (lent) {c : List Instr} {a e : Nat} (L : Lies c a e) {g gk : FuncId} {is : Nat → Bool} {o b : Bool} (ld : Bool) (hg : ∀ (op : Nat) h, callV E (om E) g [.int .u8 op] h = some (bb (is op), h)) (hk : ∀ f i h, callV E (om E) gk [fsV f, insV i] h = some (fsV (keepF o b f i), h)) :
  pureV E (om E) 119 lent [stV c a e, .pcon [bb ld] 0, .pcon [.func (.func g) [] []] 0, .pcon [.func (.func gk) [] []] 0] = some (fsV (localF ld is o b (win c a e))) := by
 have h0 : ∀ h, callV E (om E) 114 [stV c a e, .int .u32 0] h = some (insV (opF (win c a e) 0), h) := call_opS L 0 (by omega)
 have h1 : ∀ h, callV E (om E) 114 [stV c a e, .int .u32 1] h = some (insV (opF (win c a e) 1), h) := call_opS L 1 (by omega)
 have h2 : ∀ h, callV E (om E) 114 [stV c a e, .int .u32 2] h = some (insV (opF (win c a e) 2), h) := call_opS L 2 (by omega)
 apply pu_119
 unfold localF
 cases ld
 ·simp only [Bool.false_eq_true, if_false, false_implies, and_true]
  clear h2
  generalize opF (win c a e) 0 = i0 at *
  generalize opF (win c a e) 1 = i1 at *
  have h3 : ∀ h, callV E (om E) gk [.agg [.int .u32 0, .int .u32 2, .int .u8 0, .int .u8 0, .int .u32 i0.arg, .int .u32 0], insV i1] h = some (fsV (keepF o b ⟨2, 0, i0.arg, 0⟩ i1), h) := hk ⟨2, 0, i0.arg, 0⟩ i1
  by_cases g1 : i0.op = 9
  ·have g1' : (i0.op : Int) = 9 := by omega
   by_cases g2 : is i1.op = true
   ·rw [if_pos ⟨g1, g2⟩]
    simp (disch := omega) [if_pos, if_neg, iteK_pos, iteK_neg, Tryz.f119, h0, h1, g1', g2, hg, h3]
   ·rw [if_neg (by simp [g2])]
    simp (disch := omega) [if_pos, if_neg, iteK_pos, iteK_neg, Tryz.f119, h0, h1, g1', g2, hg, Shp.none]
  ·rw [if_neg (by simp [g1])]
   simp (disch := omega) [if_pos, if_neg, iteK_pos, iteK_neg, Tryz.f119, h0, h1, g1, Shp.none]
 ·simp only [if_true, true_implies]
  generalize opF (win c a e) 0 = i0 at *
  generalize opF (win c a e) 1 = i1 at *
  generalize opF (win c a e) 2 = i2 at *
  have h3 : ∀ h, callV E (om E) gk [.agg [.int .u32 0, .int .u32 3, .int .u8 0, .int .u8 0, .int .u32 i0.arg, .int .u32 0], insV i2] h = some (fsV (keepF o b ⟨3, 0, i0.arg, 0⟩ i2), h) := hk ⟨3, 0, i0.arg, 0⟩ i2
  by_cases g1 : i0.op = 9
  ·have g1' : (i0.op : Int) = 9 := by omega
   by_cases g2 : is i2.op = true
   ·by_cases g3 : i1.op = 31
    ·have g3' : (i1.op : Int) = 31 := by omega
     rw [if_pos ⟨g1, g2, g3⟩]
     simp (disch := omega) [if_pos, if_neg, iteK_pos, iteK_neg, Tryz.f119, h0, h1, h2, g1', g2, g3', hg, h3]
    ·rw [if_neg (by simp [g3])]
     simp (disch := omega) [if_pos, if_neg, iteK_pos, iteK_neg, Tryz.f119, h0, h1, h2, g1', g2, g3, hg, Shp.none]
   ·rw [if_neg (by simp [g2])]
    simp (disch := omega) [if_pos, if_neg, iteK_pos, iteK_neg, Tryz.f119, h0, h1, h2, g1', g2, hg, Shp.none]
  ·rw [if_neg (by simp [g1])]
   simp (disch := omega) [if_pos, if_neg, iteK_pos, iteK_neg, Tryz.f119, h0, h1, h2, g1, Shp.none]
def foldedF (kind : Nat) (w : List Instr) : Shp :=
 match foldF w with
 | .ok p => if p.2.1 = kind ∧ 2 ≤ p.1 then ⟨p.1, 0, p.2.2, 0⟩ else Shp.none
 | .error _ => Shp.none
theorem folded1 (lent) {c : List Instr} {a e : Nat} (L : Lies c a e) (kind : Nat) (hk : 1 ≤ kind) :
  pureV E (om E) 115 lent [stV c a e, .pcon [.int .u8 kind] 0] = some (fsV (foldedF kind (win c a e))) := by
 have hF := fun lent => FoldLongest lent c a e L.short L.lt L.le L.small
 apply pu_115
 unfold foldedF
 cases hr : foldF (win c a e) with
 | error x =>
  rw [hr] at hF
  have hk' : ¬ (0 : Int) = kind := by omega
  by_cases h0 : x = 0 <;> simp (disch := omega) [if_pos, if_neg, iteK_pos, iteK_neg, Tryz.f115, hF, h0, Shp.none, hk']
 | ok p =>
  rw [hr] at hF
  by_cases h1 : p.2.1 = kind
  ·by_cases h2 : 2 ≤ p.1
   ·have h1' : (p.2.1 : Int) = kind := by omega
    simp (disch := omega) [if_pos, if_neg, iteK_pos, iteK_neg, Tryz.f115, hF, h1, h2]
   ·simp (disch := omega) [if_pos, if_neg, iteK_pos, iteK_neg, Tryz.f115, hF, h1, h2, Shp.none]
  ·have h1' : ¬ (p.2.1 : Int) = kind := by omega
   simp (disch := omega) [if_pos, if_neg, iteK_pos, iteK_neg, Tryz.f115, hF, h1, h1', Shp.none]
def oneS (w : List Instr) : Shp := if (opF w 0).op = 0 then Shp.none else ⟨1, (opF w 0).op, (opF w 0).arg, 0⟩
theorem one1 (lent) {c : List Instr} {a e : Nat} (L : Lies c a e) : pureV E (om E) 86 lent [stV c a e] = some (fsV (oneS (win c a e))) := by
 have h0 : ∀ h, callV E (om E) 114 [stV c a e, .int .u32 0] h = some (insV (opF (win c a e) 0), h) := call_opS L 0 (by omega)
 apply pu_86
 unfold oneS
 generalize opF (win c a e) 0 = i0 at *
 by_cases h1 : i0.op = 0
 ·have h1' : (i0.op : Int) = 0 := by omega
  rw [if_pos h1]
  simp (disch := omega) [if_pos, if_neg, iteK_pos, iteK_neg, Tryz.f86, h0, h1', Shp.none]
 ·rw [if_neg h1]
  simp (disch := omega) [if_pos, if_neg, iteK_pos, iteK_neg, Tryz.f86, h0, h1, Shp.none]
end Go.Proofs.YtfplmcpkagpaiaaGreatDoor.Fl
end
section
namespace Go.Proofs.YtfplmcpkagpaiaaGreatDoor.Fl
open Go Go.Sim
theorem neq_instr (x y : Operand) (a c b d : Int) : binO E .neq 48 x y (.agg [.int .u8 a, .int .u32 b]) (.agg [.int .u8 c, .int .u32 d]) = some (.bool !(a == c && b == d)) :=
 binO_neq (eqV_two (n := 196) (by rw [E_P]; exact Tryz.underlying48) (by kernel_rfl) rfl rfl rfl rfl (by rw [E_P]; simp) (by rw [E_P]; simp) (eqV_int (by rw [E_P]; simp)) (eqV_int (by rw [E_P]; simp)))
theorem Instr.eq_of {p q : Instr} (h1 : p.op = q.op) (h2 : p.arg = q.arg) : p = q := by
 cases p; cases q; cases h1; cases h2; rfl
def bumpGo (w : List Instr) : Nat → Shp
 | 0 => Shp.none
 | n + 1 =>
  let k := constF w 3 (n + 1)
  let op := (opF w (n + 4)).op
  if k.2 = true ∧ harmF op = true ∧ (opF w (n + 5)).op = 34 then ⟨n + 6, op, (opF w 0).arg, k.1⟩ else bumpGo w n
def bumpF (w : List Instr) : Shp := if (opF w 0).op = 9 ∧ opF w 0 = opF w 1 ∧ (opF w 2).op = 31 then bumpGo w 16 else Shp.none
set_option maxHeartbeats 1000000 in
theorem bump1 (lent) {c : List Instr} {a e : Nat} (L : Lies c a e) : pureV E (om E) 100 lent [stV c a e] = some (fsV (bumpF (win c a e))) := by
 have hC : ∀ (n : Nat), n < 100 → ∀ h, callV E (om E) 118 [stV c a e, .int .u32 3, .int .u32 n] h = some (.tuple [.int .u32 (constF (win c a e) 3 n).1, bb (constF (win c a e) 3 n).2], h) := fun n hn h => call_constS L 3 n (by omega) hn h
 have hO := fun (n : Nat) (hn : n < 4294967296) h => call_opS L n hn h
 have h0 : ∀ h, callV E (om E) 114 [stV c a e, .int .u32 0] h = some (insV (opF (win c a e) 0), h) := call_opS L 0 (by omega)
 have h1 : ∀ h, callV E (om E) 114 [stV c a e, .int .u32 1] h = some (insV (opF (win c a e) 1), h) := call_opS L 1 (by omega)
 have h2 : ∀ h, callV E (om E) 114 [stV c a e, .int .u32 2] h = some (insV (opF (win c a e) 2), h) := call_opS L 2 (by omega)
 unfold bumpF
 have hgo : ∀ n, bumpGo (win c a e) (n + 1) = (if (constF (win c a e) 3 (n + 1)).2 = true ∧ harmF (opF (win c a e) (n + 4)).op = true ∧ (opF (win c a e) (n + 5)).op = 34 then ⟨n + 6, (opF (win c a e) (n + 4)).op, (opF (win c a e) 0).arg, (constF (win c a e) 3 (n + 1)).1⟩ else bumpGo (win c a e) n) := fun n => rfl
 generalize hR : bumpGo (win c a e) 16 = R
 apply pu_100
 generalize opF (win c a e) 0 = p at *
 generalize opF (win c a e) 1 = q at *
 generalize opF (win c a e) 2 = q2 at *
 by_cases g0 : p.op = 9
 ·have g0' : (p.op : Int) = 9 := by omega
  by_cases g1 : p = q
  ·subst g1
   by_cases g2 : q2.op = 31
   ·have g2' : (q2.op : Int) = 31 := by omega
    rw [if_pos ⟨g0, rfl, g2⟩]
    simp (disch := omega) [if_pos, if_neg, iteK_pos, iteK_neg, Tryz.f100, h0, h1, h2, eq_true g0', neq_instr, eq_true g2']
    refine loop_chg (dyn := []) (fun n : Nat => [(5, .int .u32 n)]) (fun _ => []) (fun _ => [])
     (fun n => n ≤ 16 ∧ R = bumpGo (win c a e) n) (fun n => n) hint_100_0 (by kernel_rfl) ?_ 16 ⟨by omega, hR.symm⟩ (by simp)
    clear hR
    rintro n ⟨hn, hf⟩ IH
    rw [lpB_eq]
    cases n with
    | zero =>
     rw [hf]
     clear IH
     simp (disch := omega) [if_pos, if_neg, iteK_pos, iteK_neg, bumpGo, Shp.none]
    | succ n =>
     have k1 := hC (n + 1) (by omega)
     have k2 := hO (n + 4) (by omega)
     have k3 := hO (n + 5) (by omega)
     rw [show ((n + 4 : Nat) : Int) = 3 + ((n : Int) + 1) by omega] at k2
     rw [show ((n + 5 : Nat) : Int) = 4 + ((n : Int) + 1) by omega] at k3
     simp only [Int.natCast_add, Int.natCast_one] at k1
     rw [hgo] at hf
     generalize constF (win c a e) 3 (n + 1) = k at *
     generalize opF (win c a e) (n + 4) = i at *
     generalize opF (win c a e) (n + 5) = j at *
     have hH : ∀ h, callV E (om E) 120 [.int .u8 i.op] h = some (bb (harmF i.op), h) := by intro h; simp (disch := omega) [if_pos, if_neg, iteK_pos, iteK_neg, fuse_harmless]
     by_cases e1 : k.2 = true
     ·by_cases e2 : harmF i.op = true
      ·by_cases e3 : j.op = 34
       ·have e3' : (j.op : Int) = 34 := by omega
        rw [if_pos ⟨e1, e2, e3⟩] at hf
        rw [hf]
        clear IH
        simp (disch := omega) [if_pos, if_neg, iteK_pos, iteK_neg, k1, k2, k3, e1, e2, eq_true e3', hH]
        omega
       ·rw [if_neg (by simp [e3])] at hf
        simp (disch := omega) [if_pos, if_neg, iteK_pos, iteK_neg, k1, k2, k3, e1, e2, e3, hH]
        exact IH n _ _ ⟨by omega, hf⟩ (by omega) (by simp)
      ·rw [if_neg (by simp [e2])] at hf
       simp (disch := omega) [if_pos, if_neg, iteK_pos, iteK_neg, k1, k2, k3, e1, e2, hH]
       exact IH n _ _ ⟨by omega, hf⟩ (by omega) (by simp)
     ·rw [if_neg (by simp [e1])] at hf
      simp (disch := omega) [if_pos, if_neg, iteK_pos, iteK_neg, k1, k2, k3, e1, hH]
      exact IH n _ _ ⟨by omega, hf⟩ (by omega) (by simp)
   ·rw [if_neg (by simp [g2])]
    simp (disch := omega) [if_pos, if_neg, iteK_pos, iteK_neg, Tryz.f100, h0, h1, h2, eq_true g0', neq_instr, g2, Shp.none]
  ·rw [if_neg (by simp [g1])]
   have g1' : (((p.op : Int) == q.op) && ((p.arg : Int) == q.arg)) = false := by
    rw [Bool.eq_false_iff]
    intro h
    rw [Bool.and_eq_true, beq_iff_eq, beq_iff_eq] at h
    exact g1 (Instr.eq_of (Int.natCast_inj.1 h.1) (Int.natCast_inj.1 h.2))
   have g3 : ∀ x y, binO E .neq 48 x y (insV p) (insV q) = some (.bool true) := fun x y => by rw [neq_instr, g1']; rfl
   simp (disch := omega) [if_pos, if_neg, iteK_pos, iteK_neg, Tryz.f100, h0, h1, h2, eq_true g0', g3, Shp.none]
 ·rw [if_neg (by simp [g0])]
  simp (disch := omega) [if_pos, if_neg, iteK_pos, iteK_neg, Tryz.f100, h0, h1, g0, Shp.none]
def clo (f : FuncId) (caps : List V) : V := .func (.func f) [] (caps.map fun v => .pcon [v] 0)
def fnV (f : FuncId) : V := .func (.func f) [] []
def shapesV : List V := [.nilfunc, fnV 86, clo 115 [.int .u8 2], clo 115 [.int .u8 3], clo 115 [.int .u8 4],
 clo 117 [fnV 89, fnV 90], clo 117 [fnV 91, fnV 92], clo 117 [fnV 93, fnV 94],
 clo 117 [fnV 95, fnV 96], clo 117 [fnV 97, fnV 90], clo 117 [fnV 98, fnV 90],
 clo 119 [bb false, fnV 93, fnV 94], clo 119 [bb false, fnV 97, fnV 90],
 clo 119 [bb true, fnV 89, fnV 90], clo 119 [bb true, fnV 91, fnV 92], fnV 100]
theorem shapes : pureV E (om E) 64 false [] = some (.agg shapesV) := pure_eval (n := 60) (by kernel_rfl)
end Go.Proofs.YtfplmcpkagpaiaaGreatDoor.Fl
end
