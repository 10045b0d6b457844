/-
  Package alu: Unary, Holds; package fold: the list.
  Package fold: the list of words: push, one, two, take.
-/
import Derived.Test.YtjmipgfaghjgmaaNe
import Derived.Test.YtjmipgfaghjgmaaMd
section
namespace Go.Proofs.Ytjmipgfaghjgmaa
open Go Go.Sim
set_option maxRecDepth 100000
set_option linter.unusedSimpArgs false
set_option linter.unusedVariables false
theorem un_not32 (a : Int) : unV .xor (.int .u32 a) = some (.int .u32 (IntKind.u32.wrap (xorI 32 4294967295 a))) := rfl
theorem Turned (lent) (a : Nat) : pureV E (om E) 33 lent [.int .u32 a] = some (.int .u32 (IntKind.u32.wrap (xorI 32 a 2147483648))) := by
  apply pu_33
  simp (disch := omega) [if_pos, if_neg, iteK_pos, iteK_neg, Try.f33]
theorem call_Turned (a : Nat) (h : Heap) : callV E (om E) 33 [.int .u32 a] h = some (.int .u32 (IntKind.u32.wrap (xorI 32 a 2147483648)), h) := by simp (disch := omega) [if_pos, if_neg, iteK_pos, iteK_neg, Turned]
/-- What an operation of one word gives. -/
def unI (op a : Nat) : Int :=
  match op with
  | 36 => IntKind.u32.wrap (IntKind.i8.wrap a)
  | 37 => IntKind.u32.wrap (IntKind.i16.wrap a)
  | 38 => IntKind.u32.wrap (-(a : Int))
  | 49 => IntKind.u32.wrap (xorI 32 4294967295 a)
  | 53 => IntKind.u32.wrap (xorI 32 a 2147483648)
  | 58 => ofF (IntKind.i32.wrap a)
  | 59 => IntKind.u32.wrap (towardF a)
  | _ => 0
def isUn (op : Nat) : Bool := decide (op = 36 ∨ op = 37 ∨ op = 38 ∨ op = 49 ∨ op = 53 ∨ op = 58 ∨ op = 59)
def unW (op a : Nat) : Nat := (unI op a).toNat
theorem unI_nonneg (op a : Nat) : 0 ≤ unI op a := by
  unfold unI
  split
  all_goals first | exact u32_nonneg _ | exact wordF_nonneg _ | omega
theorem unW_cast (op a : Nat) : ((unW op a : Nat) : Int) = unI op a := by
  have := unI_nonneg op a
  unfold unW; omega
theorem Unary (lent) (op a : Nat) : pureV E (om E) 25 lent [.int .u8 op, .int .u32 a] = some (.tuple [.int .u32 (unW op a), ii (if isUn op then 0 else 61)]) := by
  rw [unW_cast]
  have hc : op = 36 ∨ op = 37 ∨ op = 38 ∨ op = 49 ∨ op = 53 ∨ op = 58 ∨ op = 59 ∨ (op ≠ 36 ∧ op ≠ 37 ∧ op ≠ 38 ∧ op ≠ 49 ∧ op ≠ 53 ∧ op ≠ 58 ∧ op ≠ 59) := by omega
  apply pu_25
  rcases hc with rfl | rfl | rfl | rfl | rfl | rfl | rfl | hc
  case inr.inr.inr.inr.inr.inr.inr =>
    have hb : isUn op = false := by simp [isUn]; omega
    have hi : unI op a = 0 := by unfold unI; split <;> omega
    simp (disch := omega) [if_pos, if_neg, iteK_pos, iteK_neg, Try.f25, hb, hi]
  all_goals simp (disch := omega) [if_pos, if_neg, iteK_pos, iteK_neg, Try.f25, un_not32, isUn, unI, Turned]
/-- How a comparison of floats is read off their stand. -/
def floatH (op : Nat) (s : Int) : Bool :=
  match op with
  | 23 => decide (s = 3)
  | 24 => decide (s ≠ 3)
  | 25 => decide (s = 2)
  | 26 => decide (s = 2 ∨ s = 3)
  | 27 => decide (s = 4)
  | 28 => decide (s = 4 ∨ s = 3)
  | _ => false
def isFl (op : Nat) : Bool := decide (23 ≤ op ∧ op ≤ 28)
theorem stand_cases (a b : Nat) : standF a b = 1 ∨ standF a b = 2 ∨ standF a b = 3 ∨ standF a b = 4 := by
  unfold standF
  repeat (first | split | simp)
theorem FloatC (lent) (op : Nat) (s : Int) : pureV E (om E) 31 lent [.int .u8 op, .int .u8 s] = some (.tuple [.bool (floatH op s), ii (if isFl op then 0 else 61)]) := by
  have hc : op = 23 ∨ op = 24 ∨ op = 25 ∨ op = 26 ∨ op = 27 ∨ op = 28 ∨ (op < 23 ∨ 28 < op) := by omega
  apply pu_31
  rcases hc with rfl | rfl | rfl | rfl | rfl | rfl | hc
  case inr.inr.inr.inr.inr.inr =>
    have hb : isFl op = false := by simp [isFl]; omega
    have hi : floatH op s = false := by unfold floatH; split <;> first | rfl | omega
    simp (disch := omega) [if_pos, if_neg, iteK_pos, iteK_neg, Try.f31, hb, hi]
  all_goals
    have hs : s = 2 ∨ s = 3 ∨ s = 4 ∨ (s ≠ 2 ∧ s ≠ 3 ∧ s ≠ 4) := by omega
    rcases hs with rfl | rfl | rfl | ⟨h2, h3, h4⟩
    all_goals first | (simp (disch := omega) [if_pos, if_neg, iteK_pos, iteK_neg, Try.f31, isFl, floatH]; done) | simp (disch := omega) [if_pos, if_neg, iteK_pos, iteK_neg, Try.f31, isFl, floatH, h2, h3, h4]
def holdsF (op a b : Nat) : Bool :=
  match op with
  | 13 => decide (a = b)
  | 14 => !decide (a = b)
  | 15 => decide (IntKind.i32.wrap a < IntKind.i32.wrap b)
  | 16 => decide (IntKind.i32.wrap a ≤ IntKind.i32.wrap b)
  | 17 => decide (IntKind.i32.wrap b < IntKind.i32.wrap a)
  | 18 => decide (IntKind.i32.wrap b ≤ IntKind.i32.wrap a)
  | 19 => decide (a < b)
  | 20 => decide (a ≤ b)
  | 21 => decide (b < a)
  | 22 => decide (b ≤ a)
  | _ => floatH op (standF a b)
def isCmp (op : Nat) : Bool := decide (13 ≤ op ∧ op ≤ 28)
theorem Holds (lent) (op a b : Nat) : pureV E (om E) 24 lent [.int .u8 op, .int .u32 a, .int .u32 b] = some (.tuple [.bool (holdsF op a b), ii (if isCmp op then 0 else 61)]) := by
  have hc : op = 13 ∨ op = 14 ∨ op = 15 ∨ op = 16 ∨ op = 17 ∨ op = 18 ∨ op = 19 ∨ op = 20 ∨ op = 21 ∨ op = 22 ∨ (op < 13 ∨ 22 < op) := by omega
  apply pu_24
  rcases hc with rfl | rfl | rfl | rfl | rfl | rfl | rfl | rfl | rfl | rfl | hc
  case inr.inr.inr.inr.inr.inr.inr.inr.inr.inr =>
    have hi : holdsF op a b = floatH op (standF a b) := by unfold holdsF; split <;> first | rfl | (exfalso; omega)
    have hb : isCmp op = isFl op := by unfold isCmp isFl; exact decide_eq_decide.2 (by omega)
    simp (disch := omega) [if_pos, if_neg, iteK_pos, iteK_neg, Try.f24, hb, hi, FloatC]
  all_goals simp (disch := omega) [if_pos, if_neg, iteK_pos, iteK_neg, Try.f24, isCmp, holdsF, Int.natCast_inj]
end Go.Proofs.Ytjmipgfaghjgmaa
end
section
namespace Go.Proofs.Ytjmipgfaghjgmaa
open Go Go.Sim
set_option maxRecDepth 100000
set_option linter.unusedSimpArgs false
set_option linter.unusedVariables false

theorem get_set {h : Heap} {d j : Nat} {b b' : Blk} (hg : h.get d j = some b') : (h.set d j b).get d j = some b := by
  unfold Heap.get Heap.set at *
  cases hd : h[d]? with
  | none => rw [hd] at hg; cases hg
  | some l =>
    rw [hd] at hg
    simp only [Option.bind_some] at hg
    have h1 := (List.getElem?_eq_some_iff.1 hd).1
    have h2 := (List.getElem?_eq_some_iff.1 hg).1
    rw [List.getElem?_set_self h1]
    simp [h2]
theorem set_set (h : Heap) (d j : Nat) (b b' : Blk) : (h.set d j b).set d j b' = h.set d j b' := by
  unfold Heap.set
  cases hd : h[d]? with
  | none => simp [hd, List.set_eq_of_length_le (List.getElem?_eq_none_iff.1 hd)]
  | some l =>
    have h1 := (List.getElem?_eq_some_iff.1 hd).1
    rw [List.getElem?_set_self h1]
    simp
theorem set_self {h : Heap} {d j : Nat} {b : Blk} (hg : h.get d j = some b) : h.set d j b = h := by
  unfold Heap.get Heap.set at *
  cases hd : h[d]? with
  | none => rw [hd] at hg; cases hg
  | some l =>
    rw [hd] at hg
    simp only [Option.bind_some] at hg
    obtain ⟨h1, h1'⟩ := List.getElem?_eq_some_iff.1 hd
    obtain ⟨h2, h2'⟩ := List.getElem?_eq_some_iff.1 hg
    simp only [Option.getD_some]
    rw [← h2', List.set_getElem_self, ← h1', List.set_getElem_self]

/-- What a row has in the place of the operand stack: 64 places, and how many of them count. -/
structure FL where
  ws : List Nat
  n : Nat
  len : ws.length = 64
def FL.at_ (l : FL) (i : Nat) : Nat := l.ws.getD i 0
def FL.withN (l : FL) (n : Nat) : FL := ⟨l.ws, n, l.len⟩
def FL.withW (l : FL) (i x : Nat) : FL := ⟨l.ws.set i x, l.n, by rw [List.length_set, l.len]⟩
@[simp] theorem FL.withN_n (l : FL) (n : Nat) : (l.withN n).n = n := rfl
@[simp] theorem FL.withW_n (l : FL) (i x : Nat) : (l.withW i x).n = l.n := rfl
def FL.cells (l : FL) : List V := l.ws.map (fun x => .int .u32 (x : Int)) ++ [ii l.n]
def FL.blk (l : FL) : Blk := .row l.cells 0 65 true true
@[simp] theorem FL.cells_len (l : FL) : l.cells.length = 65 := by simp [FL.cells, l.len]
@[simp] theorem FL.cells_n (l : FL) : l.cells[64]? = some (ii l.n) := by
  unfold FL.cells
  rw [List.getElem?_append_right (by simp [l.len])]
  simp [l.len]
theorem FL.cells_w (l : FL) {i : Nat} (h : i < 64) : l.cells[i]? = some (.int .u32 (l.at_ i)) := by
  unfold FL.cells FL.at_
  rw [List.getElem?_append_left (by simp [l.len, h]), List.getElem?_map, List.getD_eq_getElem?_getD, List.getElem?_eq_getElem (by rw [l.len]; exact h)]
  rfl
@[simp] theorem FL.set_n (l : FL) (m : Nat) : l.cells.set 64 (ii m) = (l.withN m).cells := by
  unfold FL.cells FL.withN
  rw [List.set_append_right _ _ (by simp [l.len])]
  simp [l.len]
theorem FL.set_w (l : FL) {i : Nat} (x : Nat) (h : i < 64) : l.cells.set i (.int .u32 x) = (l.withW i x).cells := by
  unfold FL.cells FL.withW
  rw [List.set_append_left _ _ (by simp [l.len, h])]
  simp [List.map_set]
@[simp] theorem FL.flat (l : FL) : V.flatL l.cells = true := by
  unfold FL.cells
  refine flatL_append ?_ (by simp)
  induction l.ws with
  | nil => simp
  | cons x r ih => simp [ih]
@[simp] theorem FL.plain (l : FL) : V.plainL l.cells = true := by
  have : ∀ a b : List V, V.plainL a = true → V.plainL b = true → V.plainL (a ++ b) = true := by
    intro a b ha hb
    induction a with
    | nil => exact hb
    | cons v r ih => simp only [V.plainL, Bool.and_eq_true] at ha; simp [ha.1, ih ha.2]
  unfold FL.cells
  refine this _ _ ?_ (by simp)
  induction l.ws with
  | nil => simp
  | cons x r ih => simp [ih]
@[simp] theorem FL.ok (l : FL) : okCells l.cells = true := by
  unfold FL.cells
  rw [okCells_append]
  simp [okCells]

def pushF (l : FL) (w : Nat) : Bool × FL := if l.n = 64 then (false, l) else (true, (l.withW l.n w).withN (l.n + 1))
theorem FL.set_n1 (l : FL) : l.cells.set 64 (ii ((l.n : Int) + 1)) = (l.withN (l.n + 1)).cells := FL.set_n l (l.n + 1)
theorem FL.set_m1 (l : FL) (h : 1 ≤ l.n) : l.cells.set 64 (ii ((l.n : Int) - 1)) = (l.withN (l.n - 1)).cells := by
  rw [show (l.n : Int) - 1 = ((l.n - 1 : Nat) : Int) by omega]; exact FL.set_n l (l.n - 1)
theorem FL.set_m2 (l : FL) (h : 2 ≤ l.n) : l.cells.set 64 (ii ((l.n : Int) - 2)) = (l.withN (l.n - 2)).cells := by
  rw [show (l.n : Int) - 2 = ((l.n - 2 : Nat) : Int) by omega]; exact FL.set_n l (l.n - 2)
theorem lpush {h : Heap} {d j : Nat} {l : FL} (hg : h.get d j = some l.blk) (w : Nat) (hn : l.n ≤ 64) : callV E (om E) 70 [.pref d j 0 0, .int .u32 w] h = some (bb (pushF l w).1, h.set d j (pushF l w).2.blk) := by
  apply he_70
  unfold FL.blk at *
  by_cases h1 : l.n = 64
  · simp (disch := omega) [if_pos, if_neg, iteK_pos, iteK_neg, Try.f70, hg, h1, pushF, set_self hg]
  · simp (disch := omega) [if_pos, if_neg, iteK_pos, iteK_neg, Try.f70, hg, h1, pushF, get_set hg, set_set]
    rw [FL.set_w _ _ (by omega)]
    exact congrArg _ (congrArg (fun c => Blk.row c 0 65 true true) (FL.set_n1 _))
def oneF (l : FL) (op : Nat) : Bool × FL :=
  if l.n < 1 then (false, l) else
  let a := l.at_ (l.n - 1)
  if op = 10 then (true, l.withN (l.n - 1)) else if op = 11 then pushF l a else (isUn op, l.withW (l.n - 1) (unW op a))
theorem one {h : Heap} {d j : Nat} {l : FL} (hg : h.get d j = some l.blk) (op : Nat) (hn : l.n ≤ 64) : callV E (om E) 71 [.pref d j 0 0, .int .u8 op] h = some (bb (oneF l op).1, h.set d j (oneF l op).2.blk) := by
  apply he_71
  have hp : ∀ (B : List Blk) (w : Nat), callV E (om E) 70 [.pref (d + 1) j 0 0, .int .u32 w] (B :: h) = some (bb (pushF l w).1, B :: h.set d j (pushF l w).2.blk) := fun B w => by rw [lpush (h := B :: h) (l := l) (by simpa using hg) w hn, Heap_setS]
  unfold FL.blk at *
  by_cases h1 : l.n < 1
  · simp (disch := omega) [if_pos, if_neg, iteK_pos, iteK_neg, Try.f71, hg, h1, oneF, set_self hg]
  have hN : ((l.n : Int) - 1).toNat = l.n - 1 := by omega
  have hw := FL.cells_w l (i := l.n - 1) (by omega)
  by_cases h2 : op = 10
  · subst h2
    simp (disch := omega) [if_pos, if_neg, iteK_pos, iteK_neg, Try.f71, hg, h1, oneF, hN, hw, FL.set_m1]
  by_cases h3 : op = 11
  · subst h3
    simp (disch := omega) [if_pos, if_neg, iteK_pos, iteK_neg, Try.f71, hg, h1, oneF, hN, hw, hp]
  · simp (disch := omega) [if_pos, if_neg, iteK_pos, iteK_neg, Try.f71, hg, h1, h2, h3, oneF, hN, hw, Unary, FL.set_w]
def twoF (l : FL) (op : Nat) (branch : Bool) : Nat × FL :=
  if l.n < 2 then (1, l) else
  let a := l.at_ (l.n - 2)
  let b := l.at_ (l.n - 1)
  if branch then (if holdsF op a b then 2 else 3, l.withN (l.n - 2)) else
  if binE op b ≠ 0 then (1, l) else (0, (l.withN (l.n - 1)).withW (l.n - 2) (binW op a b))
theorem two {h : Heap} {d j : Nat} {l : FL} (hg : h.get d j = some l.blk) (op : Nat) (br : Bool) (hn : l.n ≤ 64) : callV E (om E) 69 [.pref d j 0 0, .int .u8 op, bb br] h = some (.int .u8 (twoF l op br).1, h.set d j (twoF l op br).2.blk) := by
  apply he_69
  unfold FL.blk at *
  by_cases h1 : l.n < 2
  · simp (disch := omega) [if_pos, if_neg, iteK_pos, iteK_neg, Try.f69, hg, h1, twoF, set_self hg]
  have hN : ((l.n : Int) - 1).toNat = l.n - 1 := by omega
  have hN2 : ((l.n : Int) - 2).toNat = l.n - 2 := by omega
  have hN3 : (((l.n - 1 : Nat) : Int) - 1).toNat = l.n - 2 := by omega
  have hw := FL.cells_w l (i := l.n - 1) (by omega)
  have hw2 := FL.cells_w l (i := l.n - 2) (by omega)
  cases br
  · by_cases h2 : binE op (l.at_ (l.n - 1)) = 0
    · simp (disch := omega) [if_pos, if_neg, iteK_pos, iteK_neg, Try.f69, hg, h1, twoF, hN, hN2, hN3, hw, hw2, h2, get_set hg, set_set, FL.set_m1, FL.set_w]
    · simp (disch := omega) [if_pos, if_neg, iteK_pos, iteK_neg, Try.f69, hg, h1, twoF, hN, hN2, hw, hw2, h2, set_self hg]
  · by_cases h2 : holdsF op (l.at_ (l.n - 2)) (l.at_ (l.n - 1)) = true
    · simp (disch := omega) [if_pos, if_neg, iteK_pos, iteK_neg, Try.f69, hg, h1, twoF, hN, hN2, hw, hw2, h2, Holds, FL.set_m2]
    · simp (disch := omega) [if_pos, if_neg, iteK_pos, iteK_neg, Try.f69, hg, h1, twoF, hN, hN2, hw, hw2, h2, Holds, FL.set_m2]
/-- What an instruction does to the list: how it ended, and the list. -/
def takeF (l : FL) (i : Instr) : Nat × FL :=
  if insBad i ≠ 0 then (1, l) else if kindF i.op = 2 then twoF l i.op true else if i.op = 1 then (0, l)
  else if i.op = 8 then (let x := pushF l i.arg; (if x.1 then 0 else 1, x.2))
  else if i.op = 10 ∨ i.op = 11 ∨ (36 ≤ i.op ∧ takesF i.op = 1) then (let x := oneF l i.op; (if x.1 then 0 else 1, x.2))
  else if 36 ≤ i.op ∧ takesF i.op = 2 then twoF l i.op false else (1, l)
set_option maxHeartbeats 1000000 in
theorem take {h : Heap} {d j : Nat} {l : FL} (hg : h.get d j = some l.blk) (i : Instr) (hn : l.n ≤ 64) : callV E (om E) 68 [.pref d j 0 0, insV i] h = some (.int .u8 (takeF l i).1, h.set d j (takeF l i).2.blk) := by
  apply he_68
  have htwo : ∀ (B : List Blk) (br : Bool), callV E (om E) 69 [.pref (d + 1) j 0 0, .int .u8 i.op, bb br] (B :: h) = some (.int .u8 (twoF l i.op br).1, B :: h.set d j (twoF l i.op br).2.blk) := fun B br => by rw [two (h := B :: h) (l := l) (by simpa using hg) i.op br hn, Heap_setS]
  have hone : ∀ (B : List Blk), callV E (om E) 71 [.pref (d + 1) j 0 0, .int .u8 i.op] (B :: h) = some (bb (oneF l i.op).1, B :: h.set d j (oneF l i.op).2.blk) := fun B => by rw [one (h := B :: h) (l := l) (by simpa using hg) i.op hn, Heap_setS]
  have hpush : ∀ (B : List Blk), callV E (om E) 70 [.pref (d + 1) j 0 0, .int .u32 i.arg] (B :: h) = some (bb (pushF l i.arg).1, B :: h.set d j (pushF l i.arg).2.blk) := fun B => by rw [lpush (h := B :: h) (l := l) (by simpa using hg) i.arg hn, Heap_setS]
  unfold FL.blk at *
  by_cases hb : insBad i = 0
  · by_cases hk : kindF i.op = 2
    · simp (disch := omega) [if_pos, if_neg, iteK_pos, iteK_neg, Try.f68, Info, IsaCheck, hb, hk, kind_eq, takeF, htwo]
    by_cases h1 : i.op = 1
    · have ht : takeF l i = (0, l) := by unfold takeF; rw [if_neg (by simp [hb]), if_neg hk, if_pos h1]
      have h1' : (i.op : Int) = 1 := by omega
      simp (disch := omega) [if_pos, if_neg, iteK_pos, iteK_neg, Try.f68, Info, IsaCheck, hb, hk, kind_eq, ht, eq_true h1', set_self hg]
    by_cases h8 : i.op = 8
    · have ht : takeF l i = (if (pushF l i.arg).1 then 0 else 1, (pushF l i.arg).2) := by unfold takeF; rw [if_neg (by simp [hb]), if_neg hk, if_neg h1, if_pos h8]
      have h8' : (i.op : Int) = 8 := by omega
      by_cases hp : (pushF l i.arg).1 = true
      · simp (disch := omega) [if_pos, if_neg, iteK_pos, iteK_neg, Try.f68, Info, IsaCheck, hb, hk, kind_eq, ht, eq_true h8', hpush, hp]
      · simp (disch := omega) [if_pos, if_neg, iteK_pos, iteK_neg, Try.f68, Info, IsaCheck, hb, hk, kind_eq, ht, eq_true h8', hpush, hp]
    by_cases ho : i.op = 10 ∨ i.op = 11 ∨ (36 ≤ i.op ∧ takesF i.op = 1)
    · have ht : takeF l i = (if (oneF l i.op).1 then 0 else 1, (oneF l i.op).2) := by unfold takeF; rw [if_neg (by simp [hb]), if_neg hk, if_neg h1, if_neg h8, if_pos ho]
      rcases ho with h10 | h11 | ⟨h36, hta⟩
      · have h10' : (i.op : Int) = 10 := by omega
        by_cases hp : (oneF l i.op).1 = true <;> simp (disch := omega) [if_pos, if_neg, iteK_pos, iteK_neg, Try.f68, Info, IsaCheck, hb, hk, kind_eq, takes_eq, ht, eq_true h10', hone, hp]
      · have h11' : (i.op : Int) = 11 := by omega
        by_cases hp : (oneF l i.op).1 = true <;> simp (disch := omega) [if_pos, if_neg, iteK_pos, iteK_neg, Try.f68, Info, IsaCheck, hb, hk, kind_eq, takes_eq, ht, eq_true h11', hone, hp]
      · by_cases hp : (oneF l i.op).1 = true <;> simp (disch := omega) [if_pos, if_neg, iteK_pos, iteK_neg, Try.f68, Info, IsaCheck, hb, hk, kind_eq, takes_eq, ht, h36, hta, hone, hp]
    by_cases ht2 : 36 ≤ i.op ∧ takesF i.op = 2
    · have ht : takeF l i = twoF l i.op false := by unfold takeF; rw [if_neg (by simp [hb]), if_neg hk, if_neg h1, if_neg h8, if_neg ho, if_pos ht2]
      simp (disch := omega) [if_pos, if_neg, iteK_pos, iteK_neg, Try.f68, Info, IsaCheck, hb, hk, kind_eq, takes_eq, ht, ht2.1, ht2.2, htwo]
    · have ht : takeF l i = (1, l) := by unfold takeF; rw [if_neg (by simp [hb]), if_neg hk, if_neg h1, if_neg h8, if_neg ho, if_neg ht2]
      by_cases h36 : 36 ≤ i.op
      · have e1 : ¬ takesF i.op = 1 := fun e => ho (.inr (.inr ⟨h36, e⟩))
        have e2 : ¬ takesF i.op = 2 := fun e => ht2 ⟨h36, e⟩
        simp (disch := omega) [if_pos, if_neg, iteK_pos, iteK_neg, Try.f68, Info, IsaCheck, hb, hk, kind_eq, takes_eq, ht, h36, e1, e2, set_self hg]
      · simp (disch := omega) [if_pos, if_neg, iteK_pos, iteK_neg, Try.f68, Info, IsaCheck, hb, hk, kind_eq, takes_eq, ht, h36, set_self hg]
  · simp (disch := omega) [if_pos, if_neg, iteK_pos, iteK_neg, Try.f68, Info, IsaCheck, hb, takeF, set_self hg]
end Go.Proofs.Ytjmipgfaghjgmaa
end
