/-
  The law's small machine: thing.
-/
import Derived.Test.YtjmipgfaghjgmaaQb
import Derived.Test.YtjmipgfaghjgmaaNj
section
namespace Go.Proofs.Ytjmipgfaghjgmaa
open Go Go.Sim
set_option maxRecDepth 100000
set_option linter.unusedSimpArgs false
set_option linter.unusedVariables false
section
variable {h : Heap} {d j j2 : Nat} {S : PS}
/-- A thing at one go. -/
def thingS (S : PS) (at_ k : Nat) (f : Shp) : PS :=
  let S := S.withPc (addW at_ f.len)
  let cmp := fun (b : Nat) => if holdsF f.op S.pop.1 b then S.pop.2.withPc f.b else S.pop.2
  let bin := fun (b : Nat) => (S.pop.2.withBad (S.pop.2.bad || !decide (binE f.op b = 0))).push (binW f.op S.pop.1 b)
  match k with
  | 2 => S.push f.a
  | 3 => S.withPc f.a
  | 4 => S
  | 5 => bin f.a
  | 6 => cmp f.a
  | 7 => S.store (argW S.sp f.b) f.a 4
  | 9 => S.push (loadW S.data f.a (sizeF f.op))
  | 10 => S.pop.2.store S.pop.1 f.a (sizeF f.op)
  | 11 => S.store (argW S.sp f.b) (addW S.sp f.a) 4
  | 12 => S.push (loadW S.data (addW S.sp f.a) (sizeF f.op))
  | 13 => bin (loadW S.data (addW S.sp f.a) 4)
  | 14 => cmp (loadW S.data (addW S.sp f.a) 4)
  | 15 => (S.withBad (S.bad || !decide (binE f.op f.b = 0))).store (addW S.sp f.a) (binW f.op (loadW S.data (addW S.sp f.a) 4) f.b) 4
  | _ => S.withBad true
set_option maxHeartbeats 4000000 in
theorem thing1 (H : Has h d j j2) (hlen : S.ops.length < 35184372088830) (hbf : S.bad = false) (at_ k : Nat) (f : Shp) (hk : k = 2 ∨ k = 3 ∨ k = 4 ∨ k = 5 ∨ k = 6 ∨ k = 7 ∨ k = 9 ∨ k = 10 ∨ k = 11 ∨ k = 12 ∨ k = 13 ∨ k = 14 ∨ k = 15) : callV E (om E) 13 [.pref d j 0 0, fusedV at_ k f] (S.mem h d j j2) = some (.tuple [], (thingS S at_ k f).mem h d j j2) := by
  have hg := fun S : PS => mem_get (S := S) H
  have hpush : ∀ B (S : PS) (w : Nat), S.ops.length < 35184372088832 → callV E (om E) 20 [.pref (d + 1) j 0 0, .int .u32 w] (B :: S.mem h d j j2) = some (.tuple [], B :: (S.push w).mem h d j j2) := fun B S w hl => by
    have := memPush (S := S) (H.up B) hl w
    simpa using this
  have hpop : ∀ B (S : PS), S.ops.length < 2 ^ 62 → callV E (om E) 10 [.pref (d + 1) j 0 0] (B :: S.mem h d j j2) = some (u32V S.pop.1, B :: S.pop.2.mem h d j j2) := fun B S hl => by
    have := memPop (S := S) (H.up B) hl
    simpa using this
  have hstore : ∀ B (S : PS) (a w n : Nat), n ≤ 4 → callV E (om E) 21 [.pref (d + 1) j 0 0, .int .u32 a, .int .u32 w, .int .i64 n] (B :: S.mem h d j j2) = some (.tuple [], B :: (S.store a w n).mem h d j j2) := fun B S a w n hl => by
    have := memStore (S := S) (H.up B) a w n hl
    simpa using this
  have hstore4 : ∀ B (S : PS) (a w : Nat), callV E (om E) 21 [.pref (d + 1) j 0 0, .int .u32 a, .int .u32 w, .int .i64 4] (B :: S.mem h d j j2) = some (.tuple [], B :: (S.store a w 4).mem h d j j2) := fun B S a w => hstore B S a w 4 (by omega)
  have hload : ∀ B (S : PS) (a n : Nat), n ≤ 4 → callV E (om E) 22 [.pref (d + 1) j 0 0, .int .u32 a, .int .i64 n] (B :: S.mem h d j j2) = some (u32V (loadW S.data a n), B :: S.mem h d j j2) := fun B S a n hl => by
    have := memLoad (S := S) (H.up B) a n hl
    simpa using this
  have hload4 : ∀ B (S : PS) (a : Nat), callV E (om E) 22 [.pref (d + 1) j 0 0, .int .u32 a, .int .i64 4] (B :: S.mem h d j j2) = some (u32V (loadW S.data a 4), B :: S.mem h d j j2) := fun B S a => hload B S a 4 (by omega)
  clear H
  have hsz : sizeF f.op ≤ 4 := by unfold sizeF; split <;> (try split) <;> omega
  have hadd : ∀ x y : Nat, V.int IntKind.u32 (IntKind.u32.wrap ((x : Int) + y)) = .int .u32 ((addW x y : Nat) : Int) := fun x y => by rw [addW_cast]
  have harg : ∀ x y : Nat, V.int IntKind.u32 (IntKind.u32.wrap (IntKind.u32.wrap ((x : Int) + 4) + IntKind.u32.wrap (4 * (y : Int)))) = .int .u32 ((argW x y : Nat) : Int) := fun x y => by rw [argW_cast]
  have hS0 : (S.withPc (addW at_ f.len)).ops = S.ops := rfl
  have hb0 : (S.withPc (addW at_ f.len)).bad = false := hbf
  have hbad : ∀ (S : PS) (x : Bool), (S.pm j2).cells.set 259 (bb x) = ((S.pm j2).withBad x).cells := fun S x => PM.set_259 _ _
  have hpushB : ∀ B (S : PS) (x : Bool) (w : Nat), S.ops.length < 35184372088832 → callV E (om E) 20 [.pref (d + 1) j 0 0, .int .u32 w] (B :: (S.withBad x).mem h d j j2) = some (.tuple [], B :: ((S.withBad x).push w).mem h d j j2) := fun B S x w hl => hpush B (S.withBad x) w hl
  have hH := fun lent a b => Holds lent f.op a b
  have hL1 := pop_len (S.withPc (addW at_ f.len))
  apply he_13
  unfold thingS
  dsimp only
  rw [← hS0] at hlen
  rcases hk with rfl | rfl | rfl | rfl | rfl | rfl | rfl | rfl | rfl | rfl | rfl | rfl | rfl
  all_goals try dsimp only
  · simp (disch := omega) [if_pos, if_neg, iteK_pos, iteK_neg, Try.f13, V.upIf, hg, hadd, hpush]
  · simp (disch := omega) [if_pos, if_neg, iteK_pos, iteK_neg, Try.f13, V.upIf, hg, hadd]
  · simp (disch := omega) [if_pos, if_neg, iteK_pos, iteK_neg, Try.f13, V.upIf, hg, hadd]
  · by_cases hb : (S.withPc (addW at_ f.len)).pop.2.bad = true
    · by_cases hz : binE f.op f.a = 0
      · simp (disch := omega) [if_pos, if_neg, iteK_pos, iteK_neg, Try.f13, V.upIf, hg, hadd, hpop, hpushB, hb, hz, hbad]
      · simp (disch := omega) [if_pos, if_neg, iteK_pos, iteK_neg, Try.f13, V.upIf, hg, hadd, hpop, hpushB, hb, hz, hbad]
    · simp only [Bool.not_eq_true] at hb
      by_cases hz : binE f.op f.a = 0
      · simp (disch := omega) [if_pos, if_neg, iteK_pos, iteK_neg, Try.f13, V.upIf, hg, hadd, hpop, hpushB, hb, hz, hbad]
      · simp (disch := omega) [if_pos, if_neg, iteK_pos, iteK_neg, Try.f13, V.upIf, hg, hadd, hpop, hpushB, hb, hz, hbad]
  · by_cases hh : holdsF f.op (S.withPc (addW at_ f.len)).pop.1 f.a = true
    · simp (disch := omega) [if_pos, if_neg, iteK_pos, iteK_neg, Try.f13, V.upIf, hg, hadd, hpop, hH, hh]
    · simp (disch := omega) [if_pos, if_neg, iteK_pos, iteK_neg, Try.f13, V.upIf, hg, hadd, hpop, hH, hh]
  · simp (disch := omega) [if_pos, if_neg, iteK_pos, iteK_neg, Try.f13, V.upIf, hg, hadd, harg, hstore4]
  · simp (disch := omega) [if_pos, if_neg, iteK_pos, iteK_neg, Try.f13, V.upIf, hg, hadd, hload, hpush, size]
  · simp (disch := omega) [if_pos, if_neg, iteK_pos, iteK_neg, Try.f13, V.upIf, hg, hadd, hpop, hstore, size]
  · simp (disch := omega) [if_pos, if_neg, iteK_pos, iteK_neg, Try.f13, V.upIf, hg, hadd, harg, hstore4]
  · simp (disch := omega) [if_pos, if_neg, iteK_pos, iteK_neg, Try.f13, V.upIf, hg, hadd, hload, hpush, size]
  · by_cases hb : (S.withPc (addW at_ f.len)).pop.2.bad = true
    · by_cases hz : binE f.op (loadW (S.withPc (addW at_ f.len)).data (addW (S.withPc (addW at_ f.len)).sp f.a) 4) = 0
      · simp (disch := omega) [if_pos, if_neg, iteK_pos, iteK_neg, Try.f13, V.upIf, hg, hadd, hpop, hpushB, hb, hz, hbad, hload4]
      · simp (disch := omega) [if_pos, if_neg, iteK_pos, iteK_neg, Try.f13, V.upIf, hg, hadd, hpop, hpushB, hb, hz, hbad, hload4]
    · simp only [Bool.not_eq_true] at hb
      by_cases hz : binE f.op (loadW (S.withPc (addW at_ f.len)).data (addW (S.withPc (addW at_ f.len)).sp f.a) 4) = 0
      · simp (disch := omega) [if_pos, if_neg, iteK_pos, iteK_neg, Try.f13, V.upIf, hg, hadd, hpop, hpushB, hb, hz, hbad, hload4]
      · simp (disch := omega) [if_pos, if_neg, iteK_pos, iteK_neg, Try.f13, V.upIf, hg, hadd, hpop, hpushB, hb, hz, hbad, hload4]
  · by_cases hh : holdsF f.op (S.withPc (addW at_ f.len)).pop.1 (loadW (S.withPc (addW at_ f.len)).data (addW (S.withPc (addW at_ f.len)).sp f.a) 4) = true
    · simp (disch := omega) [if_pos, if_neg, iteK_pos, iteK_neg, Try.f13, V.upIf, hg, hadd, hpop, hH, hh, hload4]
    · simp (disch := omega) [if_pos, if_neg, iteK_pos, iteK_neg, Try.f13, V.upIf, hg, hadd, hpop, hH, hh, hload4]
  · have hsp : ∀ (S : PS) (x : Bool), (S.withBad x).sp = S.sp := fun _ _ => rfl
    by_cases hz : binE f.op f.b = 0
    · simp (disch := omega) [if_pos, if_neg, iteK_pos, iteK_neg, Try.f13, V.upIf, hg, hadd, hload4, hstore4, hb0, hz, hbad, hsp]
    · simp (disch := omega) [if_pos, if_neg, iteK_pos, iteK_neg, Try.f13, V.upIf, hg, hadd, hload4, hstore4, hb0, hz, hbad, hsp]
end
end Go.Proofs.Ytjmipgfaghjgmaa
end
