/-
 The document's answer for layer 13, walked.
-/
import Derived.Test.YthiciofacaeddaaGreatFg
import Derived.Test.YthiciofacaeddaaGreatRa
import Derived.Test.YthiciofacaeddaaGreatMd
section
namespace Go.Proofs.YthiciofacaeddaaGreat.Fl
open Go Go.Sim
set_option maxRecDepth 100000
set_option maxHeartbeats 0
set_option linter.unusedSimpArgs false
set_option linter.unusedVariables false

theorem row_fl (n : Nat) : Go.Proofs.YthiciofacaeddaaGreat.rowV (Go.Proofs.YthiciofacaeddaaGreat.rowOf n) = rowV (rowOf n) := by
 unfold rowOf Go.Proofs.YthiciofacaeddaaGreat.rowOf
 rw [show Go.Proofs.YthiciofacaeddaaGreat.isOp n = isOp n from rfl]
 cases isOp n with
 | false => rfl
 | true =>
  rw [if_pos rfl, if_pos rfl]
  generalize pureV E (ev E 60) 154 false [.int .u8 n] = o
  unfold rowFrom Go.Proofs.YthiciofacaeddaaGreat.rowFrom
  split <;> simp_all
theorem GInfo13 (lent) (op : Nat) (h : op < 256) : pureV E (om E) 165 lent [.int .u8 op] = some (.tuple [rowV (rowOf op), bb (isOp op)]) := by
 have := Go.Proofs.YthiciofacaeddaaGreat.RInfoN lent op h
 rw [row_fl] at this
 exact this
def endF (code : List Instr) (i : Nat) : Nat := if i < code.length then (if (code.getD i default).op = 3 then i else endF code (i + 1)) else i
termination_by code.length - i
def beginG (code : List Instr) : Nat → Nat
 | 0 => 0
 | i + 1 => if (code.getD (i + 1) default).op = 3 then i + 1 else beginG code i
theorem endF_le {code : List Instr} {i : Nat} (h : i ≤ code.length) : i ≤ endF code i ∧ endF code i ≤ code.length := by
 rw [endF]
 split
 ·split
  ·omega
  ·rename_i h1 h2
   have := endF_le (code := code) (i := i + 1) (by omega)
   omega
 ·omega
termination_by code.length - i
theorem beginG_le (code : List Instr) : ∀ i, beginG code i ≤ i
 | 0 => by simp [beginG]
 | i + 1 => by rw [beginG]; split; omega; have := beginG_le code i; omega
theorem GEnd13 (lent) (code : List Instr) (b : Nat) (hb : b < code.length) (hl : code.length ≤ 16384) : pureV E (om E) 127 lent [lst eInstr code, ii b] = some (ii (endF code (b + 1))) := by
 apply pu_127
 simp (disch := omega) [if_pos, if_neg, iteK_pos, iteK_neg, Tryz.f127]
 refine loop_chg (dyn := []) (fun n : Nat => [(5, ii n)]) (fun _ => []) (fun n => []) (fun n => n ≤ code.length ∧ endF code (b + 1) = endF code n) (fun n => code.length - n) hint_127_0 (by kernel_rfl) ?_ (b + 1) ⟨by omega, rfl⟩ (by simp)
 rintro n ⟨hn, hf⟩ IH
 rw [lpB_eq]
 conv at hf => rhs; rw [endF]
 by_cases h : n < code.length
 ·rw [if_pos h, getD_lt h] at hf
  by_cases h3 : code[n].op = 3
  ·rw [if_pos h3] at hf
   simp (disch := omega) [if_pos, if_neg, iteK_pos, iteK_neg, h, h3, hf]
  ·rw [if_neg h3] at hf
   simp (disch := omega) [if_pos, if_neg, iteK_pos, iteK_neg, h, h3]
   exact IH (n + 1) _ _ ⟨by omega, hf⟩ (by omega) (by simp)
 ·rw [if_neg h] at hf
  obtain rfl : n = code.length := by omega
  simp (disch := omega) [if_pos, if_neg, iteK_pos, iteK_neg, hf]
theorem GBegin13 (lent) (code : List Instr) (i : Nat) (hi : i < code.length) (hl : code.length ≤ 16384) : pureV E (om E) 167 lent [lst eInstr code, ii i] = some (ii (beginG code i)) := by
 apply pu_167
 simp (disch := omega) [if_pos, if_neg, iteK_pos, iteK_neg, Tryz.f167]
 refine loop_chg (dyn := []) (fun n : Nat => [(1, ii n)]) (fun _ => []) (fun n => []) (fun n => n ≤ i ∧ beginG code i = beginG code n) (fun n => n) hint_167_0 (by kernel_rfl) ?_ i ⟨by omega, rfl⟩ (by simp)
 rintro n ⟨hn, hf⟩ IH
 rw [lpB_eq]
 have h : n < code.length := by omega
 cases n with
 | zero =>
  rw [hf, beginG]
  by_cases h3 : code[0].op = 3 <;> simp (disch := omega) [if_pos, if_neg, iteK_pos, iteK_neg, h, h3]
 | succ n =>
  rw [beginG, getD_lt h] at hf
  have e1 : ((n : Int) + 1).toNat = n + 1 := by omega
  by_cases h3 : code[n + 1].op = 3
  ·rw [if_pos h3] at hf
   simp (disch := omega) [if_pos, if_neg, iteK_pos, iteK_neg, h, h3, hf, e1]
  ·rw [if_neg h3] at hf
   simp (disch := omega) [if_pos, if_neg, iteK_pos, iteK_neg, h, h3, e1]
   exact IH n _ _ ⟨by omega, hf⟩ (by omega) (by simp)
def insideG (code : List Instr) (x : Nat) : Bool := decide (x < code.length ∧ (code.getD x default).op ≠ 3)
theorem GInside13 (lent) (code : List Instr) (x : Nat) (hx : x < 4294967296) (hl : code.length ≤ 16384) : pureV E (om E) 125 lent [lst eInstr code, .int .u32 x] = some (bb (insideG code x)) := by
 apply pu_125
 unfold insideG
 by_cases h : x < code.length
 ·rw [getD_lt h]
  by_cases h3 : code[x].op = 3
  ·simp (disch := omega) [if_pos, if_neg, iteK_pos, iteK_neg, Tryz.f125, h, h3]
  ·simp (disch := omega) [if_pos, if_neg, iteK_pos, iteK_neg, Tryz.f125, h, h3]
   omega
 ·simp (disch := omega) [if_pos, if_neg, iteK_pos, iteK_neg, Tryz.f125, h]
theorem kindF_tab : (List.range 60).all (fun op => decide (kindF op < 256)) = true := by decide
theorem kindF_lt (op : Nat) : kindF op < 256 := by
 by_cases h : op < 60
 ·simpa using List.all_eq_true.mp kindF_tab op (List.mem_range.mpr h)
 ·have : rowG op = (0, 0, 0, 0, 0) := getD_ge (by simp [rowTable]; omega)
  simp [kindF, this]
def instrF (code : List Instr) (i : Nat) : Nat :=
 if (code.getD i default).op = 3 ∧ ((code.getD i default).arg = 0 ∨ (code.getD i default).arg % 4 ≠ 0 ∨ 4096 < (code.getD i default).arg) then 131
 else if (code.getD i default).op = 4 ∧ (code.getD i default).arg ≠ (code.getD (beginG code i) default).arg then 131
 else if (kindF (code.getD i default).op = 3 ∨ kindF (code.getD i default).op = 2) ∧ ((code.getD i default).arg ≤ beginG code i ∨ endF code (beginG code i + 1) ≤ (code.getD i default).arg) then 132
 else if i + 1 = endF code (beginG code i + 1) ∧ kindF (code.getD i default).op ≠ 3 ∧ kindF (code.getD i default).op ≠ 4 ∧ kindF (code.getD i default).op ≠ 7 ∧ kindF (code.getD i default).op ≠ 8 then 133
 else 0
theorem GInstr13 (lent) (code : List Instr) (i : Nat) (hi : i < code.length) (hl : code.length ≤ 16384) (hf : insFits code[i]) : pureV E (om E) 124 lent [lst eInstr code, ii i] = some (ii (instrF code i)) := by
 apply pu_124
 have hB := fun lent => GBegin13 lent code i hi hl
 have hbl := beginG_le code i
 have hE := fun lent => GEnd13 lent code (beginG code i) (by omega) hl
 have hel := endF_le (code := code) (i := beginG code i + 1) (by omega)
 have hI := fun lent => GInfo13 lent code[i].op hf.1
 unfold instrF
 rw [getD_lt hi]
 have hbl2 : beginG code i < code.length := by omega
 rw [getD_lt hbl2]
 generalize beginG code i = b at *
 generalize endF code (b + 1) = e at *
 obtain ⟨f1, f2⟩ := hf
 generalize hk : kindF code[i].op = k
 generalize hx : code[i].arg = a at *
 generalize ho : code[i].op = o at *
 have hlast : ((i : Int) = e - 1) = (i + 1 = e) := propext (by omega)
 by_cases c3 : o = 3
 ·have k6 : k = 6 := by rw [← hk, c3]; decide
  have t3 : ((o : Int) = 3) = True := eq_true (by omega)
  have t4 : ((o : Int) = 4) = False := eq_false (by omega)
  clear f1
  by_cases h1 : a = 0
  ·rw [if_pos ⟨c3, .inl h1⟩]
   have u1 : (a = 0) = True := eq_true h1
   clear h1
   simp (disch := omega) [if_pos, if_neg, iteK_pos, iteK_neg, Tryz.f124, hB, hE, hI, hi, hx, ho, t3, t4, u1]
  have u1 : ((a : Int) = 0) = False := eq_false (by omega)
  by_cases h2 : a % 4 = 0
  ·have u2 : ((a : Int) % 4 = 0) = True := eq_true (by omega)
   by_cases h3 : 4096 < a
   ·rw [if_pos ⟨c3, .inr (.inr h3)⟩]
    have u3 : ((4096 : Int) < a) = True := eq_true (by omega)
    simp (disch := omega) [if_pos, if_neg, iteK_pos, iteK_neg, Tryz.f124, hB, hE, hI, hi, hx, ho, t3, t4, u1, u2, u3]
   ·have u3 : ((4096 : Int) < a) = False := eq_false (by omega)
    rw [if_neg (by omega), if_neg (by omega), if_neg (by omega)]
    by_cases h4 : i + 1 = e
    ·have v4 : (i + 1 = e) = True := eq_true h4
     rw [if_pos ⟨h4, by omega⟩]
     clear h4
     simp (disch := omega) [if_pos, if_neg, iteK_pos, iteK_neg, Tryz.f124, hB, hE, hI, kind_eq, hk, k6, hi, hx, ho, t3, t4, u1, u2, u3, hlast, v4]
    ·have v4 : (i + 1 = e) = False := eq_false h4
     rw [if_neg (by omega)]
     simp (disch := omega) [if_pos, if_neg, iteK_pos, iteK_neg, Tryz.f124, hB, hE, hI, kind_eq, hk, k6, hi, hx, ho, t3, t4, u1, u2, u3, hlast, v4]
  ·rw [if_pos ⟨c3, .inr (.inl h2)⟩]
   have u2 : ((a : Int) % 4 = 0) = False := eq_false (by omega)
   simp (disch := omega) [if_pos, if_neg, iteK_pos, iteK_neg, Tryz.f124, hB, hE, hI, hi, hx, ho, t3, t4, u1, u2]
 have t3 : ((o : Int) = 3) = False := eq_false (by omega)
 rw [if_neg (by omega)]
 by_cases c4 : o = 4
 ·have k7 : k = 7 := by rw [← hk, c4]; decide
  have t4 : ((o : Int) = 4) = True := eq_true (by omega)
  by_cases h1 : a = code[b].arg
  ·have u1 : ((a : Int) = code[b].arg) = True := eq_true (by omega)
   rw [if_neg (by omega), if_neg (by omega), if_neg (by omega)]
   by_cases h4 : i + 1 = e
   ·have v4 : (i + 1 = e) = True := eq_true h4
    clear h4 h1
    simp (disch := omega) [if_pos, if_neg, iteK_pos, iteK_neg, Tryz.f124, hB, hE, hI, kind_eq, hk, k7, hi, hx, ho, t3, t4, u1, hbl2, hlast, v4]
   ·have v4 : (i + 1 = e) = False := eq_false h4
    clear h1
    simp (disch := omega) [if_pos, if_neg, iteK_pos, iteK_neg, Tryz.f124, hB, hE, hI, kind_eq, hk, k7, hi, hx, ho, t3, t4, u1, hbl2, hlast, v4]
  ·have u1 : ((a : Int) = code[b].arg) = False := eq_false (by omega)
   rw [if_pos ⟨c4, h1⟩]
   simp (disch := omega) [if_pos, if_neg, iteK_pos, iteK_neg, Tryz.f124, hB, hE, hI, kind_eq, hk, hi, hx, ho, t3, t4, u1, hbl2]
 have t4 : ((o : Int) = 4) = False := eq_false (by omega)
 rw [if_neg (by omega)]
 have k256 : k < 256 := by rw [← hk]; exact kindF_lt o
 by_cases ck : k = 3 ∨ k = 2
 ·obtain ⟨w3, w2⟩ : (((k : Int) = 3) = (k = 3)) ∧ (((k : Int) = 2) = (k = 2)) := ⟨propext (by omega), propext (by omega)⟩
  by_cases h1 : a ≤ b
  ·rw [if_pos ⟨ck, .inl h1⟩]
   have u1 : ((a : Int) ≤ b) = True := eq_true (by omega)
   rcases ck with rfl | rfl
   ·simp (disch := omega) [if_pos, if_neg, iteK_pos, iteK_neg, Tryz.f124, hB, hE, hI, kind_eq, hk, hi, hx, ho, t3, t4, u1]
   ·simp (disch := omega) [if_pos, if_neg, iteK_pos, iteK_neg, Tryz.f124, hB, hE, hI, kind_eq, hk, hi, hx, ho, t3, t4, u1]
  ·have u1 : ((a : Int) ≤ b) = False := eq_false (by omega)
   by_cases h2 : e ≤ a
   ·rw [if_pos ⟨ck, .inr h2⟩]
    have u2 : ((e : Int) ≤ a) = True := eq_true (by omega)
    rcases ck with rfl | rfl
    ·simp (disch := omega) [if_pos, if_neg, iteK_pos, iteK_neg, Tryz.f124, hB, hE, hI, kind_eq, hk, hi, hx, ho, t3, t4, u1, u2]
    ·simp (disch := omega) [if_pos, if_neg, iteK_pos, iteK_neg, Tryz.f124, hB, hE, hI, kind_eq, hk, hi, hx, ho, t3, t4, u1, u2]
   ·have u2 : ((e : Int) ≤ a) = False := eq_false (by omega)
    rw [if_neg (by omega)]
    by_cases h4 : i + 1 = e
    ·have v4 : (i + 1 = e) = True := eq_true h4
     rcases ck with rfl | rfl
     ·rw [if_neg (by omega)]
      clear h4
      simp (disch := omega) [if_pos, if_neg, iteK_pos, iteK_neg, Tryz.f124, hB, hE, hI, kind_eq, hk, hi, hx, ho, t3, t4, u1, u2, hlast, v4]
     ·rw [if_pos ⟨h4, by omega⟩]
      clear h4
      simp (disch := omega) [if_pos, if_neg, iteK_pos, iteK_neg, Tryz.f124, hB, hE, hI, kind_eq, hk, hi, hx, ho, t3, t4, u1, u2, hlast, v4]
    ·have v4 : (i + 1 = e) = False := eq_false h4
     rw [if_neg (by omega)]
     rcases ck with rfl | rfl
     ·simp (disch := omega) [if_pos, if_neg, iteK_pos, iteK_neg, Tryz.f124, hB, hE, hI, kind_eq, hk, hi, hx, ho, t3, t4, u1, u2, hlast, v4]
     ·simp (disch := omega) [if_pos, if_neg, iteK_pos, iteK_neg, Tryz.f124, hB, hE, hI, kind_eq, hk, hi, hx, ho, t3, t4, u1, u2, hlast, v4]
 ·have w3 : ((k : Int) = 3) = False := eq_false (by omega)
  have w2 : ((k : Int) = 2) = False := eq_false (by omega)
  rw [if_neg (by omega)]
  by_cases h4 : i + 1 = e
  ·have v4 : (i + 1 = e) = True := eq_true h4
   by_cases k4 : k = 4
   ·rw [if_neg (by omega)]
    have w4 : ((k : Int) = 4) = True := eq_true (by omega)
    clear h4 k4
    simp (disch := omega) [if_pos, if_neg, iteK_pos, iteK_neg, Tryz.f124, hB, hE, hI, kind_eq, hk, hi, hx, ho, t3, t4, w2, w3, w4, hlast, v4]
   have w4 : ((k : Int) = 4) = False := eq_false (by omega)
   by_cases k7 : k = 7
   ·rw [if_neg (by omega)]
    have w7 : ((k : Int) = 7) = True := eq_true (by omega)
    clear h4 k7
    simp (disch := omega) [if_pos, if_neg, iteK_pos, iteK_neg, Tryz.f124, hB, hE, hI, kind_eq, hk, hi, hx, ho, t3, t4, w2, w3, w4, w7, hlast, v4]
   have w7 : ((k : Int) = 7) = False := eq_false (by omega)
   by_cases k8 : k = 8
   ·rw [if_neg (by omega)]
    have w8 : ((k : Int) = 8) = True := eq_true (by omega)
    clear h4 k8
    simp (disch := omega) [if_pos, if_neg, iteK_pos, iteK_neg, Tryz.f124, hB, hE, hI, kind_eq, hk, hi, hx, ho, t3, t4, w2, w3, w4, w7, w8, hlast, v4]
   have w8 : ((k : Int) = 8) = False := eq_false (by omega)
   rw [if_pos ⟨h4, by omega, k4, k7, k8⟩]
   clear h4
   simp (disch := omega) [if_pos, if_neg, iteK_pos, iteK_neg, Tryz.f124, hB, hE, hI, kind_eq, hk, hi, hx, ho, t3, t4, w2, w3, w4, w7, w8, hlast, v4]
  ·have v4 : (i + 1 = e) = False := eq_false h4
   rw [if_neg (by omega)]
   simp (disch := omega) [if_pos, if_neg, iteK_pos, iteK_neg, Tryz.f124, hB, hE, hI, kind_eq, hk, hi, hx, ho, t3, t4, w2, w3, hlast, v4]
end Go.Proofs.YthiciofacaeddaaGreat.Fl
end
