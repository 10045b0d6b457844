/-
  The law's small machine: take.
-/
import Derived.Test.YtjmipgfaghjgmaaQa
import Derived.Test.YtjmipgfaghjgmaaNf
section
namespace Go.Proofs.Ytjmipgfaghjgmaa
open Go Go.Sim
set_option maxRecDepth 100000
set_option linter.unusedSimpArgs false
set_option linter.unusedVariables false
def incW (x : Nat) : Nat := (IntKind.u32.wrap ((x : Int) + 1)).toNat
theorem incW_cast (x : Nat) : ((incW x : Nat) : Int) = IntKind.u32.wrap ((x : Int) + 1) := by
  have := u32_nonneg ((x : Int) + 1)
  unfold incW; omega
def addW (x y : Nat) : Nat := (IntKind.u32.wrap ((x : Int) + y)).toNat
theorem addW_cast (x y : Nat) : ((addW x y : Nat) : Int) = IntKind.u32.wrap ((x : Int) + y) := by
  have := u32_nonneg ((x : Int) + y)
  unfold addW; omega
/-- The place of an argument. -/
def argW (sp x : Nat) : Nat := (IntKind.u32.wrap (IntKind.u32.wrap ((sp : Int) + 4) + IntKind.u32.wrap (4 * (x : Int)))).toNat
theorem argW_cast (sp x : Nat) : ((argW sp x : Nat) : Int) = IntKind.u32.wrap (IntKind.u32.wrap ((sp : Int) + 4) + IntKind.u32.wrap (4 * (x : Int))) := by
  have := u32_nonneg (IntKind.u32.wrap ((sp : Int) + 4) + IntKind.u32.wrap (4 * (x : Int)))
  unfold argW; omega
@[simp] theorem pm_sp (S : PS) (j : Nat) : (S.pm j).sp = S.sp := rfl
@[simp] theorem pm_pc (S : PS) (j : Nat) : (S.pm j).pc = S.pc := rfl
@[simp] theorem pm_bad (S : PS) (j : Nat) : (S.pm j).bad = S.bad := rfl
@[simp] theorem pm_data (S : PS) (j : Nat) : (S.pm j).data = S.data := rfl
section
variable {h : Heap} {d j j2 : Nat} {S : PS}
/-- One instruction. -/
def takeS (S : PS) (i : Instr) : PS :=
  let S := S.withPc (incW S.pc)
  if i.op = 1 then S
  else if i.op = 6 then S.withPc i.arg
  else if i.op = 8 then S.push i.arg
  else if i.op = 9 then S.push (addW S.sp i.arg)
  else if i.op = 10 then S.pop.2
  else if i.op = 11 then (S.pop.2.push S.pop.1).push S.pop.1
  else if i.op = 12 then S.pop.2.store (argW S.pop.2.sp i.arg) S.pop.1 4
  else if 29 ≤ i.op ∧ i.op ≤ 31 then S.pop.2.push (loadW S.pop.2.data S.pop.1 (sizeF i.op))
  else if 32 ≤ i.op ∧ i.op ≤ 34 then S.pop.2.pop.2.store S.pop.2.pop.1 S.pop.1 (sizeF i.op)
  else if kindF i.op = 2 then (if holdsF i.op S.pop.2.pop.1 S.pop.1 then S.pop.2.pop.2.withPc i.arg else S.pop.2.pop.2)
  else if kindF i.op = 1 ∧ takesF i.op = 1 ∧ givesF i.op = 1 then (S.pop.2.withBad (S.pop.2.bad || !isUn i.op)).push (unW i.op S.pop.1)
  else if kindF i.op = 1 ∧ takesF i.op = 2 ∧ givesF i.op = 1 then (S.pop.2.pop.2.withBad (S.pop.2.pop.2.bad || !decide (binE i.op S.pop.1 = 0))).push (binW i.op S.pop.2.pop.1 S.pop.1)
  else S.withBad true
theorem pop_len (S : PS) : S.pop.2.ops.length ≤ S.ops.length := by
  unfold PS.pop
  split
  · exact Nat.le_refl _
  · simp
theorem push_len (S : PS) (w : Nat) : (S.push w).ops.length = S.ops.length + 1 := by simp [PS.push]
theorem set_inc (S : PS) : (S.pm j2).cells.set 258 (.int .u32 (IntKind.u32.wrap ((S.pc : Int) + 1))) = ((S.pm j2).withPc (incW S.pc)).cells := by
  rw [← incW_cast]; exact PM.set_258 _ _
set_option maxHeartbeats 4000000 in
theorem take1 (H : Has h d j j2) (hlen : S.ops.length < 35184372088830) (i : Instr) : callV E (om E) 12 [.pref d j 0 0, insV i] (S.mem h d j j2) = some (.tuple [], (takeS S i).mem h d j j2) := by
  have hg := fun S : PS => mem_get (S := S) H
  have hpush : ∀ B (S : PS) (w : Nat), S.ops.length < 35184372088832 → callV E (om E) 20 [.pref (d + 1) j 0 0, .int .u32 w] (B :: S.mem h d j j2) = some (.tuple [], B :: (S.push w).mem h d j j2) := fun B S w hl => by
    have := memPush (S := S) (H.up B) hl w
    simpa using this
  have hpop : ∀ B (S : PS), S.ops.length < 2 ^ 62 → callV E (om E) 10 [.pref (d + 1) j 0 0] (B :: S.mem h d j j2) = some (u32V S.pop.1, B :: S.pop.2.mem h d j j2) := fun B S hl => by
    have := memPop (S := S) (H.up B) hl
    simpa using this
  have hstore : ∀ B (S : PS) (a w n : Nat), n ≤ 4 → callV E (om E) 21 [.pref (d + 1) j 0 0, .int .u32 a, .int .u32 w, .int .i64 n] (B :: S.mem h d j j2) = some (.tuple [], B :: (S.store a w n).mem h d j j2) := fun B S a w n hl => by
    have := memStore (S := S) (H.up B) a w n hl
    simpa using this
  have hload : ∀ B (S : PS) (a n : Nat), n ≤ 4 → callV E (om E) 22 [.pref (d + 1) j 0 0, .int .u32 a, .int .i64 n] (B :: S.mem h d j j2) = some (u32V (loadW S.data a n), B :: S.mem h d j j2) := fun B S a n hl => by
    have := memLoad (S := S) (H.up B) a n hl
    simpa using this
  clear H
  have hinc := set_inc (j2 := j2) S
  have hS0 : (S.withPc (incW S.pc)).ops = S.ops := rfl
  have hsz : sizeF i.op ≤ 4 := by unfold sizeF; split <;> (try split) <;> omega
  apply he_12
  unfold takeS
  dsimp only
  rw [← hS0] at hlen
  have hadd : ∀ x y : Nat, V.int IntKind.u32 (IntKind.u32.wrap ((x : Int) + y)) = .int .u32 ((addW x y : Nat) : Int) := fun x y => by rw [addW_cast]
  have harg : ∀ x y : Nat, V.int IntKind.u32 (IntKind.u32.wrap (IntKind.u32.wrap ((x : Int) + 4) + IntKind.u32.wrap (4 * (y : Int)))) = .int .u32 ((argW x y : Nat) : Int) := fun x y => by rw [argW_cast]
  have hL1 := pop_len (S.withPc (incW S.pc))
  have hL2 := pop_len (S.withPc (incW S.pc)).pop.2
  have hL3 := push_len (S.withPc (incW S.pc)).pop.2 (S.withPc (incW S.pc)).pop.1
  have hstore4 : ∀ B (S : PS) (a w : Nat), callV E (om E) 21 [.pref (d + 1) j 0 0, .int .u32 a, .int .u32 w, .int .i64 4] (B :: S.mem h d j j2) = some (.tuple [], B :: (S.store a w 4).mem h d j j2) := fun B S a w => hstore B S a w 4 (by omega)
  by_cases h1 : i.op = 1
  · have h1' : (i.op : Int) = 1 := by omega
    rw [if_pos h1]
    simp (disch := omega) [if_pos, if_neg, iteK_pos, iteK_neg, Try.f12, V.upIf, hg, Info, hinc, kind_eq, takes_eq, gives_eq, eq_true h1']
  rw [if_neg h1]
  by_cases h6 : i.op = 6
  · have h6' : (i.op : Int) = 6 := by omega
    rw [if_pos h6]
    simp (disch := omega) [if_pos, if_neg, iteK_pos, iteK_neg, Try.f12, V.upIf, hg, Info, hinc, kind_eq, takes_eq, gives_eq, eq_true h6']
  rw [if_neg h6]
  by_cases h8 : i.op = 8
  · have h8' : (i.op : Int) = 8 := by omega
    rw [if_pos h8]
    simp (disch := omega) [if_pos, if_neg, iteK_pos, iteK_neg, Try.f12, V.upIf, hg, Info, hinc, kind_eq, takes_eq, gives_eq, eq_true h8', hpush]
  rw [if_neg h8]
  by_cases h9 : i.op = 9
  · have h9' : (i.op : Int) = 9 := by omega
    rw [if_pos h9]
    simp (disch := omega) [if_pos, if_neg, iteK_pos, iteK_neg, Try.f12, V.upIf, hg, Info, hinc, kind_eq, takes_eq, gives_eq, eq_true h9', hpush, hadd]
  rw [if_neg h9]
  by_cases h10 : i.op = 10
  · have h10' : (i.op : Int) = 10 := by omega
    rw [if_pos h10]
    simp (disch := omega) [if_pos, if_neg, iteK_pos, iteK_neg, Try.f12, V.upIf, hg, Info, hinc, kind_eq, takes_eq, gives_eq, eq_true h10', hpop]
  rw [if_neg h10]
  by_cases h11 : i.op = 11
  · have h11' : (i.op : Int) = 11 := by omega
    rw [if_pos h11]
    simp (disch := omega) [if_pos, if_neg, iteK_pos, iteK_neg, Try.f12, V.upIf, hg, Info, hinc, kind_eq, takes_eq, gives_eq, eq_true h11', hpop, hpush]
  rw [if_neg h11]
  by_cases h12 : i.op = 12
  · have h12' : (i.op : Int) = 12 := by omega
    rw [if_pos h12]
    simp (disch := omega) [if_pos, if_neg, iteK_pos, iteK_neg, Try.f12, V.upIf, hg, Info, hinc, kind_eq, takes_eq, gives_eq, eq_true h12', hpop, hstore4, harg]
  rw [if_neg h12]
  have hN : ¬ (i.op : Int) = 1 ∧ ¬ (i.op : Int) = 6 ∧ ¬ (i.op : Int) = 8 ∧ ¬ (i.op : Int) = 9 ∧ ¬ (i.op : Int) = 10 ∧ ¬ (i.op : Int) = 11 ∧ ¬ (i.op : Int) = 12 := by omega
  obtain ⟨n1, n6, n8, n9, n10, n11, n12⟩ := hN
  by_cases hld : 29 ≤ i.op ∧ i.op ≤ 31
  · rw [if_pos hld]
    simp (disch := omega) [if_pos, if_neg, iteK_pos, iteK_neg, Try.f12, V.upIf, hg, Info, hinc, kind_eq, takes_eq, gives_eq, eq_false n1, eq_false n6, eq_false n8, eq_false n9, eq_false n10, eq_false n11, eq_false n12, hld.1, hld.2, hpop, hpush, hload, size]
  rw [if_neg hld]
  by_cases hst : 32 ≤ i.op ∧ i.op ≤ 34
  · rw [if_pos hst]
    have hge : 31 < i.op := by omega
    simp (disch := omega) [if_pos, if_neg, iteK_pos, iteK_neg, Try.f12, V.upIf, hg, Info, hinc, kind_eq, takes_eq, gives_eq, eq_false n1, eq_false n6, eq_false n8, eq_false n9, eq_false n10, eq_false n11, eq_false n12, hst.1, hst.2, hge, hpop, hpush, hstore, size]
  rw [if_neg hst]
  have hpushB : ∀ B (S : PS) (x : Bool) (w : Nat), S.ops.length < 35184372088832 → callV E (om E) 20 [.pref (d + 1) j 0 0, .int .u32 w] (B :: (S.withBad x).mem h d j j2) = some (.tuple [], B :: ((S.withBad x).push w).mem h d j j2) := fun B S x w hl => hpush B (S.withBad x) w hl
  have hside : i.op < 29 ∨ 34 < i.op := by omega
  have hbad : ∀ (S : PS) (x : Bool), (S.pm j2).cells.set 259 (bb x) = ((S.pm j2).withBad x).cells := fun S x => PM.set_259 _ _
  by_cases hk2 : kindF i.op = 2
  · rw [if_pos hk2]
    have hH := fun lent a b => Holds lent i.op a b
    by_cases hh : holdsF i.op (S.withPc (incW S.pc)).pop.2.pop.1 (S.withPc (incW S.pc)).pop.1 = true
    · rw [if_pos hh]
      rcases hside with hs | hs <;> simp (disch := omega) [if_pos, if_neg, iteK_pos, iteK_neg, Try.f12, V.upIf, hg, Info, hinc, kind_eq, takes_eq, gives_eq, eq_false n1, eq_false n6, eq_false n8, eq_false n9, eq_false n10, eq_false n11, eq_false n12, hk2, hpop, hH, hh]
    · rw [if_neg hh]
      rcases hside with hs | hs <;> simp (disch := omega) [if_pos, if_neg, iteK_pos, iteK_neg, Try.f12, V.upIf, hg, Info, hinc, kind_eq, takes_eq, gives_eq, eq_false n1, eq_false n6, eq_false n8, eq_false n9, eq_false n10, eq_false n11, eq_false n12, hk2, hpop, hH, hh]
  rw [if_neg hk2]
  by_cases hk1 : kindF i.op = 1
  · by_cases ht1 : takesF i.op = 1
    · by_cases hg1 : givesF i.op = 1
      · rw [if_pos ⟨hk1, ht1, hg1⟩]
        have hU := fun lent a => Unary lent i.op a
        by_cases hb : (S.withPc (incW S.pc)).pop.2.bad = true
        · rcases hside with hs | hs <;> cases hu : isUn i.op <;> simp (disch := omega) [if_pos, if_neg, iteK_pos, iteK_neg, Try.f12, V.upIf, hg, Info, hinc, kind_eq, takes_eq, gives_eq, eq_false n1, eq_false n6, eq_false n8, eq_false n9, eq_false n10, eq_false n11, eq_false n12, hk2, hk1, ht1, hg1, hpop, hpushB, hU, hb, hu, hbad]
        · simp only [Bool.not_eq_true] at hb
          rcases hside with hs | hs <;> cases hu : isUn i.op <;> simp (disch := omega) [if_pos, if_neg, iteK_pos, iteK_neg, Try.f12, V.upIf, hg, Info, hinc, kind_eq, takes_eq, gives_eq, eq_false n1, eq_false n6, eq_false n8, eq_false n9, eq_false n10, eq_false n11, eq_false n12, hk2, hk1, ht1, hg1, hpop, hpushB, hU, hb, hu, hbad]
      · rw [if_neg (by simp [hg1]), if_neg (by simp [hg1])]
        rcases hside with hs | hs <;> simp (disch := omega) [if_pos, if_neg, iteK_pos, iteK_neg, Try.f12, V.upIf, hg, Info, hinc, kind_eq, takes_eq, gives_eq, eq_false n1, eq_false n6, eq_false n8, eq_false n9, eq_false n10, eq_false n11, eq_false n12, hk2, hk1, ht1, hg1, hbad]
    · rw [if_neg (by simp [ht1])]
      by_cases ht2 : takesF i.op = 2
      · by_cases hg1 : givesF i.op = 1
        · rw [if_pos ⟨hk1, ht2, hg1⟩]
          by_cases hb : (S.withPc (incW S.pc)).pop.2.pop.2.bad = true
          · by_cases hz : binE i.op (S.withPc (incW S.pc)).pop.1 = 0
            · rcases hside with hs | hs <;> simp (disch := omega) [if_pos, if_neg, iteK_pos, iteK_neg, Try.f12, V.upIf, hg, Info, hinc, kind_eq, takes_eq, gives_eq, eq_false n1, eq_false n6, eq_false n8, eq_false n9, eq_false n10, eq_false n11, eq_false n12, hk2, hk1, ht2, hg1, hpop, hpushB, hb, hz, hbad]
            · rcases hside with hs | hs <;> simp (disch := omega) [if_pos, if_neg, iteK_pos, iteK_neg, Try.f12, V.upIf, hg, Info, hinc, kind_eq, takes_eq, gives_eq, eq_false n1, eq_false n6, eq_false n8, eq_false n9, eq_false n10, eq_false n11, eq_false n12, hk2, hk1, ht2, hg1, hpop, hpushB, hb, hz, hbad]
          · simp only [Bool.not_eq_true] at hb
            by_cases hz : binE i.op (S.withPc (incW S.pc)).pop.1 = 0
            · rcases hside with hs | hs <;> simp (disch := omega) [if_pos, if_neg, iteK_pos, iteK_neg, Try.f12, V.upIf, hg, Info, hinc, kind_eq, takes_eq, gives_eq, eq_false n1, eq_false n6, eq_false n8, eq_false n9, eq_false n10, eq_false n11, eq_false n12, hk2, hk1, ht2, hg1, hpop, hpushB, hb, hz, hbad]
            · rcases hside with hs | hs <;> simp (disch := omega) [if_pos, if_neg, iteK_pos, iteK_neg, Try.f12, V.upIf, hg, Info, hinc, kind_eq, takes_eq, gives_eq, eq_false n1, eq_false n6, eq_false n8, eq_false n9, eq_false n10, eq_false n11, eq_false n12, hk2, hk1, ht2, hg1, hpop, hpushB, hb, hz, hbad]
        · rw [if_neg (by simp [hg1])]
          rcases hside with hs | hs <;> simp (disch := omega) [if_pos, if_neg, iteK_pos, iteK_neg, Try.f12, V.upIf, hg, Info, hinc, kind_eq, takes_eq, gives_eq, eq_false n1, eq_false n6, eq_false n8, eq_false n9, eq_false n10, eq_false n11, eq_false n12, hk2, hk1, ht1, ht2, hg1, hbad]
      · rw [if_neg (by simp [ht2])]
        rcases hside with hs | hs <;> simp (disch := omega) [if_pos, if_neg, iteK_pos, iteK_neg, Try.f12, V.upIf, hg, Info, hinc, kind_eq, takes_eq, gives_eq, eq_false n1, eq_false n6, eq_false n8, eq_false n9, eq_false n10, eq_false n11, eq_false n12, hk2, hk1, ht1, ht2, hbad]
  · rw [if_neg (by simp [hk1]), if_neg (by simp [hk1])]
    rcases hside with hs | hs <;> simp (disch := omega) [if_pos, if_neg, iteK_pos, iteK_neg, Try.f12, V.upIf, hg, Info, hinc, kind_eq, takes_eq, gives_eq, eq_false n1, eq_false n6, eq_false n8, eq_false n9, eq_false n10, eq_false n11, eq_false n12, hk2, hk1, hbad]
end
end Go.Proofs.Ytjmipgfaghjgmaa
end
