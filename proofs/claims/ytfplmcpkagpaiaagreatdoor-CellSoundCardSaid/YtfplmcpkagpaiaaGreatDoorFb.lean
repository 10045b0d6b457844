/-
 Package fold: the list of words: push, one, two, take.
 Package fold: Longest.
-/
import Derived.Test.YtfplmcpkagpaiaaGreatDoorFa
import Derived.Test.YtfplmcpkagpaiaaGreatDoorMe
set_option maxRecDepth 100000
set_option linter.unusedSimpArgs false
set_option linter.unusedVariables false
section
namespace Go.Proofs.YtfplmcpkagpaiaaGreatDoor.Fl
open Go Go.Sim
theorem get_set {h : Heap} {d j : Nat} {b b' : Blk} (hg : h.get d j = some b') : (h.set d j b).get d j = some b := by
 unfold Heap.get Heap.set at *
 cases hd : h[d]? with
 | none => rw [hd] at hg; cases hg
 | some l =>
  rw [hd] at hg
  simp only [Option.bind_some] at hg
  have h1 := (List.getElem?_eq_some_iff.1 hd).1
  have h2 := (List.getElem?_eq_some_iff.1 hg).1
  rw [List.getElem?_set_self h1]
  simp [h2]
theorem set_set (h : Heap) (d j : Nat) (b b' : Blk) : (h.set d j b).set d j b' = h.set d j b' := by
 unfold Heap.set
 cases hd : h[d]? with
 | none => simp [hd, List.set_eq_of_length_le (List.getElem?_eq_none_iff.1 hd)]
 | some l =>
  have h1 := (List.getElem?_eq_some_iff.1 hd).1
  rw [List.getElem?_set_self h1]
  simp
theorem set_self {h : Heap} {d j : Nat} {b : Blk} (hg : h.get d j = some b) : h.set d j b = h := by
 unfold Heap.get Heap.set at *
 cases hd : h[d]? with
 | none => rw [hd] at hg; cases hg
 | some l =>
  rw [hd] at hg
  simp only [Option.bind_some] at hg
  obtain ⟨h1, h1'⟩ := List.getElem?_eq_some_iff.1 hd
  obtain ⟨h2, h2'⟩ := List.getElem?_eq_some_iff.1 hg
  simp only [Option.getD_some]
  rw [← h2', List.set_getElem_self, ← h1', List.set_getElem_self]
structure FL where
 ws : List Nat
 n : Nat
 len : ws.length = 64
def FL.at_ (l : FL) (i : Nat) : Nat := l.ws.getD i 0
def FL.withN (l : FL) (n : Nat) : FL := ⟨l.ws, n, l.len⟩
def FL.withW (l : FL) (i x : Nat) : FL := ⟨l.ws.set i x, l.n, by rw [List.length_set, l.len]⟩
@[simp] theorem FL.withN_n (l : FL) (n : Nat) : (l.withN n).n = n := rfl
@[simp] theorem FL.withW_n (l : FL) (i x : Nat) : (l.withW i x).n = l.n := rfl
def FL.cells (l : FL) : List V := l.ws.map (fun x => .int .u32 (x : Int)) ++ [ii l.n]
def FL.blk (l : FL) : Blk := .row l.cells 0 65 true true
@[simp] theorem FL.cells_len (l : FL) : l.cells.length = 65 := by simp [FL.cells, l.len]
@[simp] theorem FL.cells_n (l : FL) : l.cells[64]? = some (ii l.n) := by
 unfold FL.cells
 rw [List.getElem?_append_right (by simp [l.len])]
 simp [l.len]
theorem FL.cells_w (l : FL) {i : Nat} (h : i < 64) : l.cells[i]? = some (.int .u32 (l.at_ i)) := by
 unfold FL.cells FL.at_
 rw [List.getElem?_append_left (by simp [l.len, h]), List.getElem?_map, List.getD_eq_getElem?_getD, List.getElem?_eq_getElem (by rw [l.len]; exact h)]
 rfl
@[simp] theorem FL.set_n (l : FL) (m : Nat) : l.cells.set 64 (ii m) = (l.withN m).cells := by
 unfold FL.cells FL.withN
 rw [List.set_append_right _ _ (by simp [l.len])]
 simp [l.len]
theorem FL.set_w (l : FL) {i : Nat} (x : Nat) (h : i < 64) : l.cells.set i (.int .u32 x) = (l.withW i x).cells := by
 unfold FL.cells FL.withW
 rw [List.set_append_left _ _ (by simp [l.len, h])]
 simp [List.map_set]
@[simp] theorem FL.flat (l : FL) : V.flatL l.cells = true := by
 unfold FL.cells
 refine flatL_append ?_ (by simp)
 induction l.ws with
 | nil => simp
 | cons x r ih => simp [ih]
@[simp] theorem FL.plain (l : FL) : V.plainL l.cells = true := by
 have : ∀ a b : List V, V.plainL a = true → V.plainL b = true → V.plainL (a ++ b) = true := by
  intro a b ha hb
  induction a with
  | nil => exact hb
  | cons v r ih => simp only [V.plainL, Bool.and_eq_true] at ha; simp [ha.1, ih ha.2]
 unfold FL.cells
 refine this _ _ ?_ (by simp)
 induction l.ws with
 | nil => simp
 | cons x r ih => simp [ih]
@[simp] theorem FL.ok (l : FL) : okCells l.cells = true := by
 unfold FL.cells
 rw [okCells_append]
 simp [okCells]
def foldPush (l : FL) (w : Nat) : Bool × FL := if l.n = 64 then (false, l) else (true, (l.withW l.n w).withN (l.n + 1))
theorem FL.set_n1 (l : FL) : l.cells.set 64 (ii ((l.n : Int) + 1)) = (l.withN (l.n + 1)).cells := FL.set_n l (l.n + 1)
theorem FL.set_m1 (l : FL) (h : 1 ≤ l.n) : l.cells.set 64 (ii ((l.n : Int) - 1)) = (l.withN (l.n - 1)).cells := by
 rw [show (l.n : Int) - 1 = ((l.n - 1 : Nat) : Int) by omega]; exact FL.set_n l (l.n - 1)
theorem FL.set_m2 (l : FL) (h : 2 ≤ l.n) : l.cells.set 64 (ii ((l.n : Int) - 2)) = (l.withN (l.n - 2)).cells := by
 rw [show (l.n : Int) - 2 = ((l.n - 2 : Nat) : Int) by omega]; exact FL.set_n l (l.n - 2)
theorem lpush {h : Heap} {d j : Nat} {l : FL} (hg : h.get d j = some l.blk) (w : Nat) (hn : l.n ≤ 64) : callV E (om E) 130 [.pref d j 0 0, .int .u32 w] h = some (bb (foldPush l w).1, h.set d j (foldPush l w).2.blk) := by
 apply he_130
 unfold FL.blk at *
 by_cases h1 : l.n = 64
 ·simp (disch := omega) [if_pos, if_neg, iteK_pos, iteK_neg, Tryz.f130, hg, h1, foldPush, set_self hg]
 ·simp (disch := omega) [if_pos, if_neg, iteK_pos, iteK_neg, Tryz.f130, hg, h1, foldPush, get_set hg, set_set]
  rw [FL.set_w _ _ (by omega)]
  exact congrArg _ (congrArg (fun c => Blk.row c 0 65 true true) (FL.set_n1 _))
def oneF (l : FL) (op : Nat) : Bool × FL :=
 if l.n < 1 then (false, l) else
 let a := l.at_ (l.n - 1)
 if op = 10 then (true, l.withN (l.n - 1)) else if op = 11 then foldPush l a else (isUn op, l.withW (l.n - 1) (unW op a))
theorem one {h : Heap} {d j : Nat} {l : FL} (hg : h.get d j = some l.blk) (op : Nat) (hn : l.n ≤ 64) : callV E (om E) 131 [.pref d j 0 0, .int .u8 op] h = some (bb (oneF l op).1, h.set d j (oneF l op).2.blk) := by
 apply he_131
 have hp : ∀ (B : List Blk) (w : Nat), callV E (om E) 130 [.pref (d + 1) j 0 0, .int .u32 w] (B :: h) = some (bb (foldPush l w).1, B :: h.set d j (foldPush l w).2.blk) := fun B w => by rw [lpush (h := B :: h) (l := l) (by simpa using hg) w hn, Heap_setS]
 unfold FL.blk at *
 by_cases h1 : l.n < 1
 ·simp (disch := omega) [if_pos, if_neg, iteK_pos, iteK_neg, Tryz.f131, hg, h1, oneF, set_self hg]
 have hN : ((l.n : Int) - 1).toNat = l.n - 1 := by omega
 have hw := FL.cells_w l (i := l.n - 1) (by omega)
 by_cases h2 : op = 10
 ·subst h2
  simp (disch := omega) [if_pos, if_neg, iteK_pos, iteK_neg, Tryz.f131, hg, h1, oneF, hN, hw, FL.set_m1]
 by_cases h3 : op = 11
 ·subst h3
  simp (disch := omega) [if_pos, if_neg, iteK_pos, iteK_neg, Tryz.f131, hg, h1, oneF, hN, hw, hp]
 ·simp (disch := omega) [if_pos, if_neg, iteK_pos, iteK_neg, Tryz.f131, hg, h1, h2, h3, oneF, hN, hw, Unary, FL.set_w]
def twoF (l : FL) (op : Nat) (branch : Bool) : Nat × FL :=
 if l.n < 2 then (1, l) else
 let a := l.at_ (l.n - 2)
 let b := l.at_ (l.n - 1)
 if branch then (if holdsF op a b then 2 else 3, l.withN (l.n - 2)) else
 if binE op b ≠ 0 then (1, l) else (0, (l.withN (l.n - 1)).withW (l.n - 2) (binW op a b))
theorem two {h : Heap} {d j : Nat} {l : FL} (hg : h.get d j = some l.blk) (op : Nat) (br : Bool) (hn : l.n ≤ 64) : callV E (om E) 129 [.pref d j 0 0, .int .u8 op, bb br] h = some (.int .u8 (twoF l op br).1, h.set d j (twoF l op br).2.blk) := by
 apply he_129
 unfold FL.blk at *
 by_cases h1 : l.n < 2
 ·simp (disch := omega) [if_pos, if_neg, iteK_pos, iteK_neg, Tryz.f129, hg, h1, twoF, set_self hg]
 have hN : ((l.n : Int) - 1).toNat = l.n - 1 := by omega
 have hN2 : ((l.n : Int) - 2).toNat = l.n - 2 := by omega
 have hN3 : (((l.n - 1 : Nat) : Int) - 1).toNat = l.n - 2 := by omega
 have hw := FL.cells_w l (i := l.n - 1) (by omega)
 have hw2 := FL.cells_w l (i := l.n - 2) (by omega)
 cases br
 ·by_cases h2 : binE op (l.at_ (l.n - 1)) = 0
  ·simp (disch := omega) [if_pos, if_neg, iteK_pos, iteK_neg, Tryz.f129, hg, h1, twoF, hN, hN2, hN3, hw, hw2, h2, get_set hg, set_set, FL.set_m1, FL.set_w]
  ·simp (disch := omega) [if_pos, if_neg, iteK_pos, iteK_neg, Tryz.f129, hg, h1, twoF, hN, hN2, hw, hw2, h2, set_self hg]
 ·by_cases h2 : holdsF op (l.at_ (l.n - 2)) (l.at_ (l.n - 1)) = true
  ·simp (disch := omega) [if_pos, if_neg, iteK_pos, iteK_neg, Tryz.f129, hg, h1, twoF, hN, hN2, hw, hw2, h2, Holds, FL.set_m2]
  ·simp (disch := omega) [if_pos, if_neg, iteK_pos, iteK_neg, Tryz.f129, hg, h1, twoF, hN, hN2, hw, hw2, h2, Holds, FL.set_m2]
def takeF (l : FL) (i : Instr) : Nat × FL :=
 if insBad i ≠ 0 then (1, l) else if kindF i.op = 2 then twoF l i.op true else if i.op = 1 then (0, l)
 else if i.op = 8 then (let x := foldPush l i.arg; (if x.1 then 0 else 1, x.2))
 else if i.op = 10 ∨ i.op = 11 ∨ (36 ≤ i.op ∧ takesF i.op = 1) then (let x := oneF l i.op; (if x.1 then 0 else 1, x.2))
 else if 36 ≤ i.op ∧ takesF i.op = 2 then twoF l i.op false else (1, l)
set_option maxHeartbeats 1000000 in
theorem take {h : Heap} {d j : Nat} {l : FL} (hg : h.get d j = some l.blk) (i : Instr) (hn : l.n ≤ 64) : callV E (om E) 128 [.pref d j 0 0, insV i] h = some (.int .u8 (takeF l i).1, h.set d j (takeF l i).2.blk) := by
 apply he_128
 have htwo : ∀ (B : List Blk) (br : Bool), callV E (om E) 129 [.pref (d + 1) j 0 0, .int .u8 i.op, bb br] (B :: h) = some (.int .u8 (twoF l i.op br).1, B :: h.set d j (twoF l i.op br).2.blk) := fun B br => by rw [two (h := B :: h) (l := l) (by simpa using hg) i.op br hn, Heap_setS]
 have hone : ∀ (B : List Blk), callV E (om E) 131 [.pref (d + 1) j 0 0, .int .u8 i.op] (B :: h) = some (bb (oneF l i.op).1, B :: h.set d j (oneF l i.op).2.blk) := fun B => by rw [one (h := B :: h) (l := l) (by simpa using hg) i.op hn, Heap_setS]
 have hpush : ∀ (B : List Blk), callV E (om E) 130 [.pref (d + 1) j 0 0, .int .u32 i.arg] (B :: h) = some (bb (foldPush l i.arg).1, B :: h.set d j (foldPush l i.arg).2.blk) := fun B => by rw [lpush (h := B :: h) (l := l) (by simpa using hg) i.arg hn, Heap_setS]
 unfold FL.blk at *
 by_cases hb : insBad i = 0
 ·by_cases hk : kindF i.op = 2
  ·simp (disch := omega) [if_pos, if_neg, iteK_pos, iteK_neg, Tryz.f128, Info, IsaCheck, hb, hk, kind_eq, takeF, htwo]
  by_cases h1 : i.op = 1
  ·have ht : takeF l i = (0, l) := by unfold takeF; rw [if_neg (by simp [hb]), if_neg hk, if_pos h1]
   have h1' : (i.op : Int) = 1 := by omega
   simp (disch := omega) [if_pos, if_neg, iteK_pos, iteK_neg, Tryz.f128, Info, IsaCheck, hb, hk, kind_eq, ht, eq_true h1', set_self hg]
  by_cases h8 : i.op = 8
  ·have ht : takeF l i = (if (foldPush l i.arg).1 then 0 else 1, (foldPush l i.arg).2) := by unfold takeF; rw [if_neg (by simp [hb]), if_neg hk, if_neg h1, if_pos h8]
   have h8' : (i.op : Int) = 8 := by omega
   by_cases hp : (foldPush l i.arg).1 = true
   ·simp (disch := omega) [if_pos, if_neg, iteK_pos, iteK_neg, Tryz.f128, Info, IsaCheck, hb, hk, kind_eq, ht, eq_true h8', hpush, hp]
   ·simp (disch := omega) [if_pos, if_neg, iteK_pos, iteK_neg, Tryz.f128, Info, IsaCheck, hb, hk, kind_eq, ht, eq_true h8', hpush, hp]
  by_cases ho : i.op = 10 ∨ i.op = 11 ∨ (36 ≤ i.op ∧ takesF i.op = 1)
  ·have ht : takeF l i = (if (oneF l i.op).1 then 0 else 1, (oneF l i.op).2) := by unfold takeF; rw [if_neg (by simp [hb]), if_neg hk, if_neg h1, if_neg h8, if_pos ho]
   rcases ho with h10 | h11 | ⟨h36, hta⟩
   ·have h10' : (i.op : Int) = 10 := by omega
    by_cases hp : (oneF l i.op).1 = true <;> simp (disch := omega) [if_pos, if_neg, iteK_pos, iteK_neg, Tryz.f128, Info, IsaCheck, hb, hk, kind_eq, takes_eq, ht, eq_true h10', hone, hp]
   ·have h11' : (i.op : Int) = 11 := by omega
    by_cases hp : (oneF l i.op).1 = true <;> simp (disch := omega) [if_pos, if_neg, iteK_pos, iteK_neg, Tryz.f128, Info, IsaCheck, hb, hk, kind_eq, takes_eq, ht, eq_true h11', hone, hp]
   ·by_cases hp : (oneF l i.op).1 = true <;> simp (disch := omega) [if_pos, if_neg, iteK_pos, iteK_neg, Tryz.f128, Info, IsaCheck, hb, hk, kind_eq, takes_eq, ht, h36, hta, hone, hp]
  by_cases ht2 : 36 ≤ i.op ∧ takesF i.op = 2
  ·have ht : takeF l i = twoF l i.op false := by unfold takeF; rw [if_neg (by simp [hb]), if_neg hk, if_neg h1, if_neg h8, if_neg ho, if_pos ht2]
   simp (disch := omega) [if_pos, if_neg, iteK_pos, iteK_neg, Tryz.f128, Info, IsaCheck, hb, hk, kind_eq, takes_eq, ht, ht2.1, ht2.2, htwo]
  ·have ht : takeF l i = (1, l) := by unfold takeF; rw [if_neg (by simp [hb]), if_neg hk, if_neg h1, if_neg h8, if_neg ho, if_neg ht2]
   by_cases h36 : 36 ≤ i.op
   ·have e1 : ¬ takesF i.op = 1 := fun e => ho (.inr (.inr ⟨h36, e⟩))
    have e2 : ¬ takesF i.op = 2 := fun e => ht2 ⟨h36, e⟩
    simp (disch := omega) [if_pos, if_neg, iteK_pos, iteK_neg, Tryz.f128, Info, IsaCheck, hb, hk, kind_eq, takes_eq, ht, h36, e1, e2, set_self hg]
   ·simp (disch := omega) [if_pos, if_neg, iteK_pos, iteK_neg, Tryz.f128, Info, IsaCheck, hb, hk, kind_eq, takes_eq, ht, h36, set_self hg]
 ·simp (disch := omega) [if_pos, if_neg, iteK_pos, iteK_neg, Tryz.f128, Info, IsaCheck, hb, takeF, set_self hg]
end Go.Proofs.YtfplmcpkagpaiaaGreatDoor.Fl
end
section
namespace Go.Proofs.YtfplmcpkagpaiaaGreatDoor.Fl
open Go Go.Sim
def FL.nil : FL := ⟨List.replicate 64 0, 0, rfl⟩
theorem zero_list : zeroV Tryz.prog 218 = some (.agg FL.nil.cells) := by kernel_rfl
def foldGo : List Instr → Nat → FL → Nat × Nat × Nat → Nat × Nat × Nat
 | [], _, _, b => b
 | x :: r, i, l, b =>
  let t := takeF l x
  if t.1 = 1 then b else
  let b1 := if 0 < i ∧ t.1 = 0 ∧ t.2.n = 1 then (i + 1, 2, t.2.at_ 0) else b
  let b2 := if 0 < i ∧ t.2.n = 0 then (if t.1 = 2 then (i + 1, 3, x.arg) else (i + 1, 4, 0)) else b1
  if t.1 = 0 then foldGo r (i + 1) t.2 b2 else b2
def foldF (w : List Instr) : Except Nat (Nat × Nat × Nat) :=
 match w with
 | [] => .error 2
 | x :: r => if insBad x = 0 then .ok (foldGo (x :: r) 0 FL.nil (1, 1, 0)) else .error (insBad x)
def win (c : List Instr) (a e : Nat) : List Instr := (c.take e).drop a
abbrev pieceV (a : Nat) (p : Nat × Nat × Nat) : V := .agg [.int .u32 a, .int .u32 p.1, .int .u8 p.2.1, .int .u32 p.2.2]
abbrev foldV (a : Nat) : Except Nat (Nat × Nat × Nat) → V
 | .ok p => .tuple [pieceV a p, ii 0]
 | .error e => .tuple [pieceV 0 (0, 0, 0), ii e]
theorem pushF_n (l : FL) (w : Nat) (h : l.n ≤ 64) : (foldPush l w).2.n ≤ 64 := by
 unfold foldPush; split
 ·exact h
 ·simp; omega
theorem oneF_n (l : FL) (op : Nat) (h : l.n ≤ 64) : (oneF l op).2.n ≤ 64 := by
 unfold oneF; dsimp only; split
 ·exact h
 split
 ·simp; omega
 split
 ·exact pushF_n _ _ h
 ·simpa using h
theorem twoF_n (l : FL) (op : Nat) (b : Bool) (h : l.n ≤ 64) : (twoF l op b).2.n ≤ 64 := by
 unfold twoF; dsimp only; split
 ·exact h
 split
 ·simp; omega
 split
 ·exact h
 ·simp; omega
theorem takeF_n (l : FL) (i : Instr) (h : l.n ≤ 64) : (takeF l i).2.n ≤ 64 := by
 unfold takeF; dsimp only
 repeat' split
 all_goals first | exact h | exact twoF_n _ _ _ h | exact pushF_n _ _ h | exact oneF_n _ _ h
theorem twoF_c (l : FL) (op : Nat) (b : Bool) : (twoF l op b).1 = 0 ∨ (twoF l op b).1 = 1 ∨ (twoF l op b).1 = 2 ∨ (twoF l op b).1 = 3 := by
 unfold twoF; dsimp only
 repeat' split
 all_goals simp
theorem takeF_c (l : FL) (i : Instr) : (takeF l i).1 = 0 ∨ (takeF l i).1 = 1 ∨ (takeF l i).1 = 2 ∨ (takeF l i).1 = 3 := by
 unfold takeF; dsimp only
 repeat' split
 all_goals first | exact twoF_c _ _ _ | simp
theorem win_cons {c : List Instr} {a e : Nat} (ha : a < e) (he : e ≤ c.length) : win c a e = c[a] :: win c (a + 1) e := by
 unfold win
 rw [List.drop_eq_getElem_cons (by simp; omega)]
 simp
theorem win_nil (c : List Instr) (e : Nat) : win c e e = [] := by
 unfold win; simp
set_option maxHeartbeats 2000000 in
theorem FoldLongest (lent) (c : List Instr) (a e : Nat) (hl : c.length < 2 ^ 63) (ha : a < e) (he : e ≤ c.length) (hea : e < 4294967296) : pureV E (om E) 116 lent [lst eInstr c, .int .u32 a, .int .u32 e] = some (foldV a (foldF (win c a e))) := by
 have hw := win_cons ha he
 apply pu_116
 by_cases h1 : insBad c[a] = 0
 ·simp (disch := omega) [if_pos, if_neg, iteK_pos, iteK_neg, Tryz.f116, IsaCheck, h1, zero_list]
  refine loop_chg (dyn := [18]) (fun x : Nat × FL × (Nat × Nat × Nat) => [(11, .int .u32 x.1)])
   (fun x => [(0, 1, .row [.int .u32 a, .int .u32 x.2.2.1, .int .u8 x.2.2.2.1, .int .u32 x.2.2.2.2] 0 4 true true), (0, 2, .row x.2.1.cells 0 65 true true)]) (fun _ => [])
   (fun x => a ≤ x.1 ∧ x.1 ≤ e ∧ x.2.1.n ≤ 64 ∧ foldF (win c a e) = .ok (foldGo (win c x.1 e) (x.1 - a) x.2.1 x.2.2)) (fun x => e - x.1) hint_116_0 (by kernel_rfl) ?_ (a, FL.nil, 1, 1, 0) ⟨by simp, by simp; omega, by simp [FL.nil], ?_⟩ (by simp)
  ·rintro ⟨i, l, b⟩ ⟨hi1, hi2, hn, hf⟩ IH
   dsimp only at hi1 hi2 hn hf
   rw [lpB_eq]
   by_cases hie : i = e
   ·subst hie
    rw [win_nil, foldGo] at hf
    clear IH
    rw [hf]
    simp (disch := omega) [if_pos, if_neg, iteK_pos, iteK_neg]
   ·have hlt : i < e := by omega
    have htake : ∀ (b0 b1 : Blk), callV E (om E) 128 [.pref 0 2 0 0, .agg [.int .u8 c[i].op, .int .u32 c[i].arg]] [[b0, b1, .row l.cells 0 65 true true]] = some (.int .u8 (takeF l c[i]).1, [[b0, b1, .row (takeF l c[i]).2.cells 0 65 true true]]) := by
     intro b0 b1
     have := take (h := [[b0, b1, .row l.cells 0 65 true true]]) (d := 0) (j := 2) (l := l) rfl c[i] hn
     simpa [FL.blk] using this
    have hn' := takeF_n l c[i] hn
    have hc := takeF_c l c[i]
    have hw0 := FL.cells_w (takeF l c[i]).2 (i := 0) (by omega)
    rw [win_cons hlt he, foldGo] at hf
    generalize takeF l c[i] = t at *
    obtain ⟨how, l'⟩ := t
    dsimp only at htake hn' hc hw0 hf
    have hI : ((i + 1 - a : Nat) : Int) = (i : Int) - a + 1 := by omega
    have hia : (0 < i - a) = (a < i) := propext (by omega)
    simp only [hia, show i - a + 1 = i + 1 - a by omega] at hf
    rcases hc with rfl | rfl | rfl | rfl
    ·rw [if_neg (by omega), if_pos rfl] at hf
     by_cases g1 : a < i
     ·by_cases g2 : l'.n = 1
      ·rw [if_neg (by omega), if_pos ⟨g1, rfl, g2⟩] at hf
       simp (disch := omega) [if_pos, if_neg, iteK_pos, iteK_neg, htake, g1, g2, hw0]
       exact IH (i + 1, l', i + 1 - a, 2, l'.at_ 0) _ _ ⟨by dsimp only; omega, by dsimp only; omega, hn', hf⟩ (by dsimp only; omega) (by simp [hI])
      by_cases g3 : l'.n = 0
      ·rw [if_pos ⟨g1, g3⟩, if_neg (by omega)] at hf
       simp (disch := omega) [if_pos, if_neg, iteK_pos, iteK_neg, htake, g1, g2, g3, hw0]
       exact IH (i + 1, l', i + 1 - a, 4, 0) _ _ ⟨by dsimp only; omega, by dsimp only; omega, hn', hf⟩ (by dsimp only; omega) (by simp [hI])
      ·rw [if_neg (by omega), if_neg (by omega)] at hf
       simp (disch := omega) [if_pos, if_neg, iteK_pos, iteK_neg, htake, g1, g2, g3, hw0]
       exact IH (i + 1, l', b) _ _ ⟨by dsimp only; omega, by dsimp only; omega, hn', hf⟩ (by dsimp only; omega) (by simp)
     ·rw [if_neg (by omega), if_neg (by omega)] at hf
      simp (disch := omega) [if_pos, if_neg, iteK_pos, iteK_neg, htake, g1, hw0]
      exact IH (i + 1, l', b) _ _ ⟨by dsimp only; omega, by dsimp only; omega, hn', hf⟩ (by dsimp only; omega) (by simp)
    ·rw [if_pos rfl] at hf
     clear IH
     rw [hf]
     simp (disch := omega) [if_pos, if_neg, iteK_pos, iteK_neg, htake]
     refine goto_use [] rfl (by kernel_rfl) ?_
     simp (disch := omega) [if_pos, if_neg, iteK_pos, iteK_neg]
    ·clear IH
     rw [if_neg (by omega), if_neg (by omega)] at hf
     rw [hf]
     by_cases g1 : a < i
     ·by_cases g3 : l'.n = 0
      ·simp (disch := omega) [if_pos, if_neg, iteK_pos, iteK_neg, htake, g1, g3, hw0]
       rw [iteK_pos (by kernel_rfl)]
       simp (disch := omega) [if_pos, if_neg, iteK_pos, iteK_neg]
       refine goto_use [] rfl (by kernel_rfl) ?_
       simp (disch := omega) [if_pos, if_neg, iteK_pos, iteK_neg, hI]
      ·simp (disch := omega) [if_pos, if_neg, iteK_pos, iteK_neg, htake, g1, g3, hw0]
       refine goto_use [] rfl (by kernel_rfl) ?_
       simp (disch := omega) [if_pos, if_neg, iteK_pos, iteK_neg, hI]
     ·simp (disch := omega) [if_pos, if_neg, iteK_pos, iteK_neg, htake, g1, hw0]
      refine goto_use [] rfl (by kernel_rfl) ?_
      simp (disch := omega) [if_pos, if_neg, iteK_pos, iteK_neg, hI]
    ·clear IH
     rw [if_neg (by omega), if_neg (by omega)] at hf
     rw [hf]
     by_cases g1 : a < i
     ·by_cases g3 : l'.n = 0
      ·simp (disch := omega) [if_pos, if_neg, iteK_pos, iteK_neg, htake, g1, g3, hw0]
       refine goto_use [] rfl (by kernel_rfl) ?_
       simp (disch := omega) [if_pos, if_neg, iteK_pos, iteK_neg, hI]
      ·simp (disch := omega) [if_pos, if_neg, iteK_pos, iteK_neg, htake, g1, g3, hw0]
       refine goto_use [] rfl (by kernel_rfl) ?_
       simp (disch := omega) [if_pos, if_neg, iteK_pos, iteK_neg, hI]
     ·simp (disch := omega) [if_pos, if_neg, iteK_pos, iteK_neg, htake, g1, hw0]
      refine goto_use [] rfl (by kernel_rfl) ?_
      simp (disch := omega) [if_pos, if_neg, iteK_pos, iteK_neg, hI]
  ·rw [hw, foldF, if_pos h1]
   simp
 ·simp (disch := omega) [if_pos, if_neg, iteK_pos, iteK_neg, Tryz.f116, IsaCheck, h1, hw, foldF]
end Go.Proofs.YtfplmcpkagpaiaaGreatDoor.Fl
end
