/-
 Package procs: inside, fault.
-/
import Derived.Test.YtfplmcpkagpaiaaGreatDoorGa
set_option maxRecDepth 100000
set_option maxHeartbeats 0
set_option linter.unusedSimpArgs false
set_option linter.unusedVariables false
section
namespace Go.Proofs.YtfplmcpkagpaiaaGreatDoor.Fl
open Go Go.Sim
structure PR where
 b : Nat
 e : Nat
 f : Nat
 deriving DecidableEq, Inhabited
abbrev prV (p : PR) : V := .agg [.int .u32 p.b, .int .u32 p.e, .int .u32 p.f, ii 0]
def ePR : Enc PR where
 enc p := [.int .u32 p.b, .int .u32 p.e, .int .u32 p.f, ii 0]
 k := 4
 pos := by omega
 len := fun _ => rfl
 canon := fun _ => by simp
 flat := fun _ => by simp
 ok := fun _ => by simp
@[simp] theorem ePR_k : ePR.k = 4 := rfl
@[simp] theorem ePR_enc (s) : ePR.enc s = [.int .u32 s.b, .int .u32 s.e, .int .u32 s.f, ii 0] := rfl
@[simp] theorem take_ePR (l : List PR) (n : Nat) : (cat ePR l).take (n * 4) = cat ePR (l.take n) := cat_take ePR l n
@[simp] theorem cut_ePR (l : List PR) : cutCells (cat ePR l) 0 l.length 4 = cat ePR l := cut_all ePR rfl rfl
@[simp] theorem fold_ePR (l : List PR) : V.scon (cat ePR l) 0 l.length false = lst ePR l := rfl
def eN : Enc Nat where
 enc n := [ii n]
 k := 1
 pos := by omega
 len := fun _ => rfl
 canon := fun _ => by simp
 flat := fun _ => by simp
 ok := fun _ => by simp
@[simp] theorem eN_k : eN.k = 1 := rfl
@[simp] theorem eN_enc (n) : eN.enc n = [ii n] := rfl
@[simp] theorem cut_eN (l : List Nat) : cutCells (cat eN l) 0 l.length 1 = cat eN l := cut_all eN rfl rfl
@[simp] theorem fold_eN (l : List Nat) : V.scon (cat eN l) 0 l.length false = lst eN l := rfl
def insideF (p : PR) (x : Nat) : Bool := decide (p.b < x ∧ x < p.e)
theorem PInside (lent) (p : PR) (x : Nat) : pureV E (om E) 76 lent [prV p, .int .u32 x] = some (bb (insideF p x)) := by
 apply pu_76
 by_cases h1 : p.b < x <;> simp (disch := omega) [if_pos, if_neg, iteK_pos, iteK_neg, Tryz.f76, h1, insideF]
def endsF (k : Nat) : Bool := decide (k = 3 ∨ k = 4 ∨ k = 8)
def faultF (p : PR) (i : Nat) (x : Instr) : Nat :=
 if kindF x.op = 6 ∧ (x.arg % 4 ≠ 0 ∨ x.arg = 0 ∨ 4096 < x.arg) then 131
 else if kindF x.op = 7 then (if x.arg = p.f then 0 else 131)
 else if (kindF x.op = 3 ∨ kindF x.op = 2) ∧ insideF p x.arg = false then 132
 else if i + 1 = p.e ∧ endsF (kindF x.op) = false then 133
 else 0
theorem PFault (lent) (p : PR) (i : Nat) (x : Instr) (hi : i < 4294967295) : pureV E (om E) 48 lent [prV p, .int .u32 i, insV x] = some (ii (faultF p i x)) := by
 apply pu_48
 generalize hk : kindF x.op = k
 have e1 : ((i : Int) + 1) % 4294967296 = i + 1 := by omega
 by_cases h6 : k = 6
 ·subst h6
  by_cases h1 : x.arg % 4 = 0 <;> by_cases h2 : x.arg = 0 <;> by_cases h3 : 4096 < x.arg <;> by_cases h4 : i + 1 = p.e <;>
   simp (disch := omega) [if_pos, if_neg, iteK_pos, iteK_neg, Tryz.f48, Info, kind_eq, hk, faultF, h1, h2, h3, h4, endsF, e1]
  all_goals first | omega | skip
 ·by_cases h7 : k = 7
  ·subst h7
   by_cases h1 : x.arg = p.f <;> simp (disch := omega) [if_pos, if_neg, iteK_pos, iteK_neg, Tryz.f48, Info, kind_eq, hk, faultF, h1, endsF]
  ·by_cases h3 : k = 3
   ·subst h3
    by_cases h1 : insideF p x.arg = true <;> by_cases h4 : i + 1 = p.e <;> simp (disch := omega) [if_pos, if_neg, iteK_pos, iteK_neg, Tryz.f48, Info, kind_eq, hk, faultF, h1, h4, endsF, PInside, e1]
   ·by_cases h2 : k = 2
    ·subst h2
     by_cases h1 : insideF p x.arg = true <;> by_cases h4 : i + 1 = p.e <;> simp (disch := omega) [if_pos, if_neg, iteK_pos, iteK_neg, Tryz.f48, Info, kind_eq, hk, faultF, h1, h4, endsF, PInside, e1]
    ·by_cases h4 : k = 4
     ·have h8 : ¬ k = 8 := by omega
      by_cases h5 : i + 1 = p.e <;> simp (disch := omega) [if_pos, if_neg, iteK_pos, iteK_neg, Tryz.f48, Info, kind_eq, hk, faultF, h2, h3, h4, h5, h6, h7, h8, endsF, e1]
     by_cases h8 : k = 8 <;> by_cases h5 : i + 1 = p.e <;> simp (disch := omega) [if_pos, if_neg, iteK_pos, iteK_neg, Tryz.f48, Info, kind_eq, hk, faultF, h2, h3, h4, h5, h6, h7, h8, endsF, e1]
end Go.Proofs.YtfplmcpkagpaiaaGreatDoor.Fl
end
