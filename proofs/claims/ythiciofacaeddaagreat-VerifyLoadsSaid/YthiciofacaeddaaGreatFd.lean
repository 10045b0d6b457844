/-
 Package procs: what Find looks at (Find own).
-/
import Derived.Test.YthiciofacaeddaaGreatFc
section
namespace Go.Proofs.YthiciofacaeddaaGreat.Fl
open Go Go.Sim
set_option maxRecDepth 100000
set_option maxHeartbeats 0
set_option linter.unusedSimpArgs false
set_option linter.unusedVariables false

theorem cutS_of (s : List PR × List Nat) (i : Nat) (x : Instr) (h : ∀ p ∈ s.2, p < s.1.length) (h0 : x.op = 3 ∨ 0 < s.1.length) : (∀ p ∈ (cutS s i x).2, p < (cutS s i x).1.length) ∧ 0 < (cutS s i x).1.length := by
 unfold cutS
 by_cases hx : x.op = 3
 ·simp only [hx, if_true, List.length_set, List.length_append, List.length_singleton]
  refine ⟨fun p hp => ?_, by omega⟩
  rcases List.mem_append.mp hp with h1 | h1
  ·have := h p h1; omega
  ·simp at h1; omega
 ·have h0' : 0 < s.1.length := by rcases h0 with h | h; exact absurd h hx; exact h
  simp only [hx, if_false, List.length_set]
  refine ⟨fun p hp => ?_, by omega⟩
  rcases List.mem_append.mp hp with h1 | h1
  ·exact h p h1
  ·simp at h1; omega
theorem cutN_of {code : List Instr} (h0 : (code.getD 0 default).op = 3) : ∀ n, (∀ p ∈ (cutN code n).2, p < (cutN code n).1.length)
 | 0 => by simp [cutN]
 | n + 1 => by
  refine (cutS_of _ _ _ (cutN_of h0 n) ?_).1
  cases n with
  | zero => exact .inl h0
  | succ n => exact .inr (cutN_pos h0 (by omega))

def faultAt (s : List PR × List Nat) (code : List Instr) (i : Nat) : Nat := faultF (s.1.getD (s.2.getD i 0) default) i (code.getD i default)
abbrev procsV (s : List PR × List Nat) (ts : List (List Nat)) : V := .pcon [lst ePR s.1, lst eN s.2, .scon (ts.map (lst eW)) 0 ts.length false] 0
abbrev findSlots (code : List Instr) (jumps : List Nat) (nm out : V) (i : Nat) : List V :=
 [lst eInstr code, lst eW jumps, nm, xx, xx, xx, xx, xx, xx, out, ii 0, ii 0, V.pref 0 0 0 0, xx, xx, xx, xx, xx, xx, xx, V.tuple [out, ii 0, ii 0], lst eInstr code, V.tuple [out, ii 0, ii 0], out, ii 0,
    ii 0, ii 0, V.bool false, xx, xx, lst eInstr code, ii code.length, V.bool false, V.bool false,
    lst eInstr code, ptr eInstr code 0 0, ptr eInstr code 0 0, V.int IntKind.u8 3, V.bool false, V.bool false,
    lst eInstr code, V.pref 0 0 0 0, lst eInstr code, ii code.length, ii i] ++ pois 51
theorem optMap_of {f : V → Option V} : ∀ {l : List V} {l' : List V}, l.length = l'.length → (∀ i (h : i < l.length) (h' : i < l'.length), f l[i] = some l'[i]) → optMap f l = some l'
 | [], [], _, _ => rfl
 | [], _ :: _, h, _ => by simp at h
 | _ :: _, [], h, _ => by simp at h
 | x :: l, y :: l', h, hf => by
  have h0 := hf 0 (by simp) (by simp)
  have h1 := optMap_of (l := l) (l' := l') (by simpa using h) (fun i h h' => hf (i + 1) (by rw [List.length_cons]; omega) (by rw [List.length_cons]; omega))
  simp only [List.getElem_cons_zero] at h0
  simp [optMap, h0, h1]
theorem canon_lsts (ts : List (List Nat)) : V.canonL (ts.map (lst eW)) = ts.map (lst eW) := by
 induction ts with
 | nil => rfl
 | cons l ts ih => simp [ih]
theorem stripL_tCells (ts : List (List Nat)) : V.stripL (tCells ts) = tCells ts := by
 have : ∀ l : List V, (∀ x ∈ l, ∃ j o n e q, x = V.sref 0 j o n e q) → V.stripL l = l := by
  intro l
  induction l with
  | nil => intro _; simp
  | cons x l ih =>
   intro h
   obtain ⟨j, o, n, e, q, rfl⟩ := h x (by simp)
   simp [ih fun y hy => h y (by simp [hy])]
 refine this _ fun x hx => ?_
 obtain ⟨j, o, n, e, q, _, h⟩ := tCells_low x hx
 exact ⟨j, o, n, e, q, h⟩
theorem tRows_strip (ts : List (List Nat)) : (tRows ts).map stripBlk = tRows ts := by
 rw [List.map_congr_left (g := id)]
 ·simp
 ·intro b hb
  obtain ⟨l, _, rfl⟩ := List.mem_map.1 hb
  simp
theorem first_bad (P : Nat → Prop) (n : Nat) : ∃ k, k ≤ n ∧ (∀ i, i < k → ¬ P i) ∧ (k < n → P k) := by
 induction n with
 | zero => exact ⟨0, by omega, by omega, by omega⟩
 | succ n ih =>
  obtain ⟨k, h1, h2, h3⟩ := ih
  by_cases hk : k < n
  ·exact ⟨k, by omega, h2, fun _ => h3 hk⟩
  ·obtain rfl : k = n := by omega
   by_cases hP : P k
   ·exact ⟨k, by omega, h2, fun _ => hP⟩
   ·refine ⟨k + 1, by omega, fun i hi => ?_, by omega⟩
    by_cases hi' : i < k
    ·exact h2 i hi'
    ·obtain rfl : i = k := by omega
     exact hP
structure FindOk (code : List Instr) (jumps : List Nat) : Prop where
 enc : encodes code
 pos : 0 < code.length
 first : (code.getD 0 default).op = 3
 faults : ∀ i, i < code.length → faultAt (cutF code) code i = 0
 jumps : ∀ i, i < jumps.length → ¬ badJ (cutF code) jumps i
structure CodeFits (code : List Instr) (jumps : List Nat) : Prop where
 ins : ∀ i ∈ code, insFits i
 len : jumps.length ≤ 35184372087808
 words : ∀ t ∈ jumps, t < 4294967296
end Go.Proofs.YthiciofacaeddaaGreat.Fl
end
