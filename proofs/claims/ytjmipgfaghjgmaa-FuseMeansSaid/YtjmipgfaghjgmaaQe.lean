/-
  The law's small machine, in plain Lean: what each instruction does.
  What a fold's piece means to the law's small machine.
  What constants mean to the law's small machine.
  What a thing means to the law's small machine: one by one it is what it is at one go.
-/
import Derived.Test.YtjmipgfaghjgmaaQb
import Derived.Test.YtjmipgfaghjgmaaNg
import Derived.Test.YtjmipgfaghjgmaaNh
import Derived.Test.YtjmipgfaghjgmaaQd
section
namespace Go.Proofs.Ytjmipgfaghjgmaa
open Go Go.Sim
set_option maxRecDepth 100000
set_option linter.unusedSimpArgs false
set_option linter.unusedVariables false
/-- How a machine stands. -/
structure Is (S : PS) (sp : Nat) (ops : List Nat) (D : List Nat) (pc : Nat) (bad : Bool) : Prop where
  sp : S.sp = sp
  ops : S.ops = ops
  data : S.data = D
  pc : S.pc = pc
  bad : S.bad = bad
theorem pop_snoc {S : PS} {o : List Nat} {x : Nat} (h : S.ops = o ++ [x]) : S.pop.1 = x ∧ S.pop.2.ops = o ∧ S.pop.2.sp = S.sp ∧ S.pop.2.data = S.data ∧ S.pop.2.pc = S.pc ∧ S.pop.2.bad = S.bad := by
  have hg : S.ops.getLast? = some x := by rw [h]; simp
  unfold PS.pop
  rw [hg]
  refine ⟨rfl, ?_, rfl, rfl, rfl, rfl⟩
  show S.ops.dropLast = o
  rw [h]; simp
def storeD (D : List Nat) (a w n : Nat) (h : D.length = 256) : List Nat := (storeF ⟨0, [], D, 0, false, 0, 0, h⟩ a w n).data
theorem store_data (S : PS) (a w n : Nat) : (S.store a w n).data = storeD S.data a w n S.len := storeGo_data a n n w _ _ rfl
section
variable {S : PS} {sp : Nat} {ops D : List Nat} {pc : Nat}
theorem Is.pops {bad : Bool} {x : Nat} (h : Is S sp (ops ++ [x]) D pc bad) : S.pop.1 = x ∧ Is S.pop.2 sp ops D pc bad := by
  obtain ⟨h1, h2, h3, h4, h5, h6⟩ := pop_snoc h.ops
  exact ⟨h1, h3.trans h.sp, h2, h4.trans h.data, h5.trans h.pc, h6.trans h.bad⟩
theorem Is.pushs {bad : Bool} (w : Nat) (h : Is S sp ops D pc bad) : Is (S.push w) sp (ops ++ [w]) D pc bad := ⟨h.sp, by show S.ops ++ [w] = _; rw [h.ops], h.data, h.pc, h.bad⟩
theorem Is.pcs {bad : Bool} (x : Nat) (h : Is S sp ops D pc bad) : Is (S.withPc x) sp ops D x bad := ⟨h.sp, h.ops, h.data, rfl, h.bad⟩
theorem Is.bads {bad : Bool} (x : Bool) (h : Is S sp ops D pc bad) : Is (S.withBad x) sp ops D pc x := ⟨h.sp, h.ops, h.data, h.pc, rfl⟩
theorem Is.stores {bad : Bool} (a w n : Nat) (hD : D.length = 256) (h : Is S sp ops D pc bad) : Is (S.store a w n) sp ops (storeD D a w n hD) pc bad := by
  refine ⟨h.sp, h.ops, ?_, h.pc, h.bad⟩
  rw [store_data]
  have := h.data
  subst this
  rfl
theorem tk_nop {i : Instr} (hi : i.op = 1) (h : Is S sp ops D pc false) : Is (takeS S i) sp ops D (incW pc) false := by
  unfold takeS; dsimp only; rw [if_pos hi, h.pc]; exact h.pcs _
theorem tk_const {i : Instr} (hi : i.op = 8) (h : Is S sp ops D pc false) : Is (takeS S i) sp (ops ++ [i.arg]) D (incW pc) false := by
  unfold takeS; dsimp only; rw [if_neg (by omega), if_neg (by omega), if_pos hi, h.pc]; exact (h.pcs _).pushs _
theorem tk_local {i : Instr} (hi : i.op = 9) (h : Is S sp ops D pc false) : Is (takeS S i) sp (ops ++ [addW sp i.arg]) D (incW pc) false := by
  unfold takeS; dsimp only; rw [if_neg (by omega), if_neg (by omega), if_neg (by omega), if_pos hi, h.pc]
  have := (h.pcs (incW pc)).pushs (addW sp i.arg)
  rw [show (S.withPc (incW pc)).sp = sp from h.sp]; exact this
theorem tk_pop {i : Instr} {x : Nat} (hi : i.op = 10) (h : Is S sp (ops ++ [x]) D pc false) : Is (takeS S i) sp ops D (incW pc) false := by
  unfold takeS; dsimp only; rw [if_neg (by omega), if_neg (by omega), if_neg (by omega), if_neg (by omega), if_pos hi, h.pc]; exact (h.pcs _).pops.2
theorem tk_dup {i : Instr} {x : Nat} (hi : i.op = 11) (h : Is S sp (ops ++ [x]) D pc false) : Is (takeS S i) sp (ops ++ [x] ++ [x]) D (incW pc) false := by
  unfold takeS; dsimp only; rw [if_neg (by omega), if_neg (by omega), if_neg (by omega), if_neg (by omega), if_neg (by omega), if_pos hi, h.pc]
  obtain ⟨h1, h2⟩ := (h.pcs (incW pc)).pops
  rw [h1]
  exact (h2.pushs x).pushs x
theorem tk_arg {i : Instr} {x : Nat} (hD : D.length = 256) (hi : i.op = 12) (h : Is S sp (ops ++ [x]) D pc false) : Is (takeS S i) sp ops (storeD D (argW sp i.arg) x 4 hD) (incW pc) false := by
  unfold takeS; dsimp only; rw [if_neg (by omega), if_neg (by omega), if_neg (by omega), if_neg (by omega), if_neg (by omega), if_neg (by omega), if_pos hi, h.pc]
  obtain ⟨h1, h2⟩ := (h.pcs (incW pc)).pops
  rw [h1, h2.sp]
  exact h2.stores _ _ _ hD
theorem tk_load {i : Instr} {x : Nat} (hi : 29 ≤ i.op ∧ i.op ≤ 31) (h : Is S sp (ops ++ [x]) D pc false) : Is (takeS S i) sp (ops ++ [loadW D x (sizeF i.op)]) D (incW pc) false := by
  unfold takeS; dsimp only; rw [if_neg (by omega), if_neg (by omega), if_neg (by omega), if_neg (by omega), if_neg (by omega), if_neg (by omega), if_neg (by omega), if_pos hi, h.pc]
  obtain ⟨h1, h2⟩ := (h.pcs (incW pc)).pops
  rw [h1, h2.data]
  exact h2.pushs _
theorem tk_store {i : Instr} {a w : Nat} (hD : D.length = 256) (hi : 32 ≤ i.op ∧ i.op ≤ 34) (h : Is S sp (ops ++ [a] ++ [w]) D pc false) : Is (takeS S i) sp ops (storeD D a w (sizeF i.op) hD) (incW pc) false := by
  unfold takeS; dsimp only; rw [if_neg (by omega), if_neg (by omega), if_neg (by omega), if_neg (by omega), if_neg (by omega), if_neg (by omega), if_neg (by omega), if_neg (by omega), if_pos hi, h.pc]
  obtain ⟨h1, h2⟩ := (h.pcs (incW pc)).pops
  obtain ⟨h3, h4⟩ := h2.pops
  rw [h1, h3]
  exact h4.stores _ _ _ hD
theorem branch_rng {op : Nat} (hk : kindF op = 2) : 13 ≤ op ∧ op ≤ 28 := by
  have h : ∀ op < 60, kindF op = 2 → 13 ≤ op ∧ op ≤ 28 := by decide
  by_cases h60 : op < 60
  · exact h op h60 hk
  · have : kindF op = 0 := by
      unfold kindF rowG
      rw [List.getD_eq_getElem?_getD, List.getElem?_eq_none (by show rowTable.length ≤ op; have : rowTable.length = 60 := rfl; omega)]
      rfl
    omega
theorem tk_branch {i : Instr} {a b : Nat} (hk : kindF i.op = 2) (h : Is S sp (ops ++ [a] ++ [b]) D pc false) : Is (takeS S i) sp ops D (if holdsF i.op a b then i.arg else incW pc) false := by
  have hr := branch_rng hk
  unfold takeS; dsimp only; rw [if_neg (by omega), if_neg (by omega), if_neg (by omega), if_neg (by omega), if_neg (by omega), if_neg (by omega), if_neg (by omega), if_neg (by omega), if_neg (by omega), if_pos hk, h.pc]
  obtain ⟨h1, h2⟩ := (h.pcs (incW pc)).pops
  obtain ⟨h3, h4⟩ := h2.pops
  rw [h1, h3]
  cases hh : holdsF i.op a b
  · simpa using h4
  · simpa using h4.pcs i.arg
theorem high_rng {op : Nat} (h36 : 36 ≤ op) (hv : isOp op = true) : kindF op = 1 ∧ givesF op = 1 ∧ (takesF op = 1 ∨ takesF op = 2) ∧ (takesF op = 1 → isUn op = true) := by
  have h : ∀ op < 60, 36 ≤ op → kindF op = 1 ∧ givesF op = 1 ∧ (takesF op = 1 ∨ takesF op = 2) ∧ (takesF op = 1 → isUn op = true) := by decide
  exact h op (by simp [isOp] at hv; omega) h36
theorem tk_unary {i : Instr} {a : Nat} (h36 : 36 ≤ i.op) (hv : isOp i.op = true) (ht : takesF i.op = 1) (h : Is S sp (ops ++ [a]) D pc false) : Is (takeS S i) sp (ops ++ [unW i.op a]) D (incW pc) false := by
  obtain ⟨hk, hg, _, hu⟩ := high_rng h36 hv
  unfold takeS; dsimp only; rw [if_neg (by omega), if_neg (by omega), if_neg (by omega), if_neg (by omega), if_neg (by omega), if_neg (by omega), if_neg (by omega), if_neg (by omega), if_neg (by omega), if_neg (by omega), if_pos ⟨hk, ht, hg⟩, h.pc]
  obtain ⟨h1, h2⟩ := (h.pcs (incW pc)).pops
  rw [h1, h2.bad, hu ht]
  exact (h2.bads (bad := false) false).pushs _
theorem tk_binary {i : Instr} {a b : Nat} (h36 : 36 ≤ i.op) (hk : kindF i.op = 1) (hg : givesF i.op = 1) (ht : takesF i.op = 2) (h : Is S sp (ops ++ [a] ++ [b]) D pc false) : Is (takeS S i) sp (ops ++ [binW i.op a b]) D (incW pc) (!decide (binE i.op b = 0)) := by
  unfold takeS; dsimp only; rw [if_neg (by omega), if_neg (by omega), if_neg (by omega), if_neg (by omega), if_neg (by omega), if_neg (by omega), if_neg (by omega), if_neg (by omega), if_neg (by omega), if_neg (by omega), if_neg (by omega), if_pos ⟨hk, ht, hg⟩, h.pc]
  obtain ⟨h1, h2⟩ := (h.pcs (incW pc)).pops
  obtain ⟨h3, h4⟩ := h2.pops
  rw [h1, h3, h4.bad, Bool.false_or]
  exact (h4.bads (bad := false) _).pushs _
end
end Go.Proofs.Ytjmipgfaghjgmaa
end
section
namespace Go.Proofs.Ytjmipgfaghjgmaa
open Go Go.Sim
set_option maxRecDepth 100000
set_option linter.unusedSimpArgs false
set_option linter.unusedVariables false
def words (l : FL) : List Nat := l.ws.take l.n
theorem take_snocN {ws : List Nat} {i : Nat} (h : i < ws.length) : ws.take (i + 1) = ws.take i ++ [ws.getD i 0] := by
  rw [List.take_add_one, List.getElem?_eq_getElem h, List.getD_eq_getElem?_getD, List.getElem?_eq_getElem h]; rfl
theorem set_take {ws : List Nat} {i v : Nat} (h : i < ws.length) : (ws.set i v).take (i + 1) = ws.take i ++ [v] := by
  rw [take_snocN (by simpa using h), List.take_set_of_le (Nat.le_refl _), List.getD_eq_getElem?_getD, List.getElem?_set_self h]; rfl
theorem words_one {l : FL} (h : l.n ≤ 64) (h1 : 1 ≤ l.n) : words l = l.ws.take (l.n - 1) ++ [l.at_ (l.n - 1)] := by
  unfold words FL.at_
  have := take_snocN (ws := l.ws) (i := l.n - 1) (by rw [l.len]; omega)
  rwa [show l.n - 1 + 1 = l.n by omega] at this
theorem words_two {l : FL} (h : l.n ≤ 64) (h1 : 2 ≤ l.n) : words l = l.ws.take (l.n - 2) ++ [l.at_ (l.n - 2)] ++ [l.at_ (l.n - 1)] := by
  rw [words_one h (by omega)]
  have := take_snocN (ws := l.ws) (i := l.n - 2) (by rw [l.len]; omega)
  rw [show l.n - 2 + 1 = l.n - 1 by omega] at this
  rw [this]; rfl
theorem words_push {l : FL} {w : Nat} (h : l.n < 64) : words ((l.withW l.n w).withN (l.n + 1)) = words l ++ [w] := by
  unfold words FL.withN FL.withW
  exact set_take (by rw [l.len]; exact h)
section
variable {S : PS} {sp : Nat} {base D : List Nat} {pc : Nat}
theorem valid_op {x : Instr} (hb : insBad x = 0) : isOp x.op = true := by
  unfold insBad at hb
  cases h : isOp x.op
  · rw [h] at hb; simp at hb
  · rfl
theorem sim_push {l l' : FL} {w : Nat} {r : Bool} (ht : pushF l w = (r, l')) (hn : l.n ≤ 64) (hr : r = true) : words l' = words l ++ [w] := by
  unfold pushF at ht
  split at ht
  · simp only [Prod.mk.injEq] at ht; rw [← ht.1] at hr; cases hr
  · simp only [Prod.mk.injEq] at ht
    rw [← ht.2]
    exact words_push (by omega)
/-- One instruction of a piece. -/
theorem sim1 {x : Instr} {l l' : FL} {c : Nat} (hn : l.n ≤ 64) (ht : takeF l x = (c, l')) (hc : c ≠ 1) (h : Is S sp (base ++ words l) D pc false) :
    (c = 0 → Is (takeS S x) sp (base ++ words l') D (incW pc) false) ∧ (c = 2 → Is (takeS S x) sp (base ++ words l') D x.arg false) ∧ (c = 3 → Is (takeS S x) sp (base ++ words l') D (incW pc) false) := by
  unfold takeF at ht
  by_cases hb : insBad x = 0
  case neg => rw [if_pos hb] at ht; simp only [Prod.mk.injEq] at ht; exact absurd ht.1.symm hc
  rw [if_neg (by simp [hb])] at ht
  have hv : isOp x.op = true := valid_op hb
  by_cases hk : kindF x.op = 2
  · rw [if_pos hk] at ht
    unfold twoF at ht
    dsimp only at ht
    by_cases h2 : l.n < 2
    · rw [if_pos h2] at ht; simp only [Prod.mk.injEq] at ht; exact absurd ht.1.symm hc
    rw [if_neg h2, if_pos rfl] at ht
    simp only [Prod.mk.injEq] at ht
    obtain ⟨hc', hl'⟩ := ht
    have hw : words l' = l.ws.take (l.n - 2) := by rw [← hl']; rfl
    rw [words_two hn (by omega), ← List.append_assoc, ← List.append_assoc] at h
    have hs := tk_branch hk h
    rw [hw]
    cases hh : holdsF x.op (l.at_ (l.n - 2)) (l.at_ (l.n - 1))
    · rw [hh] at hs hc'
      simp only [Bool.false_eq_true, if_false] at hs hc'
      exact ⟨fun e => by omega, fun e => by omega, fun _ => hs⟩
    · rw [hh] at hs hc'
      simp only [if_true] at hs hc'
      exact ⟨fun e => by omega, fun _ => hs, fun e => by omega⟩
  rw [if_neg hk] at ht
  by_cases h1 : x.op = 1
  · rw [if_pos h1] at ht
    simp only [Prod.mk.injEq] at ht
    obtain ⟨rfl, rfl⟩ := ht
    exact ⟨fun _ => tk_nop h1 h, fun e => by omega, fun e => by omega⟩
  rw [if_neg h1] at ht
  by_cases h8 : x.op = 8
  · rw [if_pos h8] at ht
    dsimp only at ht
    simp only [Prod.mk.injEq] at ht
    obtain ⟨hc', hl'⟩ := ht
    have hr : (pushF l x.arg).1 = true := by
      apply Classical.byContradiction
      intro hf
      rw [if_neg hf] at hc'
      exact hc hc'.symm
    rw [if_pos hr] at hc'
    have hw := sim_push (l := l) (w := x.arg) (r := (pushF l x.arg).1) (l' := (pushF l x.arg).2) rfl hn hr
    rw [hl'] at hw
    rw [hw, ← List.append_assoc]
    exact ⟨fun _ => tk_const h8 h, fun e => by omega, fun e => by omega⟩
  rw [if_neg h8] at ht
  by_cases ho : x.op = 10 ∨ x.op = 11 ∨ (36 ≤ x.op ∧ takesF x.op = 1)
  · rw [if_pos ho] at ht
    dsimp only at ht
    simp only [Prod.mk.injEq] at ht
    obtain ⟨hc', hl'⟩ := ht
    have hr : (oneF l x.op).1 = true := by
      apply Classical.byContradiction
      intro hf
      rw [if_neg hf] at hc'
      exact hc hc'.symm
    rw [if_pos hr] at hc'
    refine ⟨fun _ => ?_, fun e => by omega, fun e => by omega⟩
    unfold oneF at hr hl'
    dsimp only at hr hl'
    by_cases hn1 : l.n < 1
    · rw [if_pos hn1] at hr; cases hr
    rw [if_neg hn1] at hr hl'
    have hw := words_one hn (by omega)
    by_cases h10 : x.op = 10
    · rw [if_pos h10] at hl'
      rw [← hl']
      rw [hw, ← List.append_assoc] at h
      exact tk_pop h10 h
    rw [if_neg h10] at hr hl'
    by_cases h11 : x.op = 11
    · rw [if_pos h11] at hr hl'
      have hp := sim_push (l := l) (w := l.at_ (l.n - 1)) (r := (pushF l (l.at_ (l.n - 1))).1) (l' := (pushF l (l.at_ (l.n - 1))).2) rfl hn hr
      rw [hl'] at hp
      rw [hp, hw]
      rw [hw, ← List.append_assoc] at h
      have := tk_dup h11 h
      simpa [List.append_assoc] using this
    · rw [if_neg h11] at hr hl'
      have hu : 36 ≤ x.op ∧ takesF x.op = 1 := by
        rcases ho with h | h | h
        · exact absurd h h10
        · exact absurd h h11
        · exact h
      rw [← hl']
      have hw' : words (l.withW (l.n - 1) (unW x.op (l.at_ (l.n - 1)))) = l.ws.take (l.n - 1) ++ [unW x.op (l.at_ (l.n - 1))] := by
        unfold words FL.withW
        dsimp only
        have := set_take (ws := l.ws) (i := l.n - 1) (v := unW x.op (l.at_ (l.n - 1))) (by rw [l.len]; omega)
        rwa [show l.n - 1 + 1 = l.n by omega] at this
      rw [hw', ← List.append_assoc]
      rw [hw, ← List.append_assoc] at h
      exact tk_unary hu.1 hv hu.2 h
  rw [if_neg ho] at ht
  by_cases h2 : 36 ≤ x.op ∧ takesF x.op = 2
  · rw [if_pos h2] at ht
    unfold twoF at ht
    dsimp only at ht
    by_cases hn2 : l.n < 2
    · rw [if_pos hn2] at ht; simp only [Prod.mk.injEq] at ht; exact absurd ht.1.symm hc
    rw [if_neg hn2] at ht
    simp only [Bool.false_eq_true, if_false] at ht
    by_cases hz : binE x.op (l.at_ (l.n - 1)) = 0
    case neg => rw [if_pos hz] at ht; simp only [Prod.mk.injEq] at ht; exact absurd ht.1.symm hc
    rw [if_neg (by simp [hz])] at ht
    simp only [Prod.mk.injEq] at ht
    obtain ⟨hc', hl'⟩ := ht
    refine ⟨fun _ => ?_, fun e => by omega, fun e => by omega⟩
    obtain ⟨hk1, hg1, _, _⟩ := high_rng h2.1 hv
    rw [words_two hn (by omega), ← List.append_assoc, ← List.append_assoc] at h
    have hs := tk_binary h2.1 hk1 hg1 h2.2 h
    rw [hz] at hs
    rw [← hl']
    have hw' : words ((l.withN (l.n - 1)).withW (l.n - 2) (binW x.op (l.at_ (l.n - 2)) (l.at_ (l.n - 1)))) = l.ws.take (l.n - 2) ++ [binW x.op (l.at_ (l.n - 2)) (l.at_ (l.n - 1))] := by
      unfold words FL.withW FL.withN
      dsimp only
      have := set_take (ws := l.ws) (i := l.n - 2) (v := binW x.op (l.at_ (l.n - 2)) (l.at_ (l.n - 1))) (by rw [l.len]; omega)
      rwa [show l.n - 2 + 1 = l.n - 1 by omega] at this
    rw [hw', ← List.append_assoc]
    simpa using hs
  · rw [if_neg h2] at ht; simp only [Prod.mk.injEq] at ht; exact absurd ht.1.symm hc
/-- The list behind instructions that all go on. -/
def stepsF : FL → List Instr → Option FL
  | l, [] => some l
  | l, x :: r => if (takeF l x).1 = 0 then stepsF (takeF l x).2 r else none
theorem stepsF_snoc : ∀ (p : List Instr) (l : FL) (x : Instr), stepsF l (p ++ [x]) = (stepsF l p).bind fun l' => if (takeF l' x).1 = 0 then some (takeF l' x).2 else none
  | [], l, x => rfl
  | y :: r, l, x => by
    show (if (takeF l y).1 = 0 then stepsF (takeF l y).2 (r ++ [x]) else none) = (if (takeF l y).1 = 0 then stepsF (takeF l y).2 r else none).bind _
    split
    · exact stepsF_snoc r _ x
    · rfl
/-- How a piece ends. -/
def Ends (l : FL) (x : Instr) (kind value : Nat) : Prop :=
  (kind = 2 ∧ (takeF l x).1 = 0 ∧ (takeF l x).2.n = 1 ∧ value = (takeF l x).2.at_ 0) ∨
  (kind = 3 ∧ (takeF l x).1 = 2 ∧ (takeF l x).2.n = 0 ∧ value = x.arg) ∨
  (kind = 4 ∧ ((takeF l x).1 = 0 ∨ (takeF l x).1 = 3) ∧ (takeF l x).2.n = 0)
theorem foldGo_tells : ∀ (w : List Instr) (i : Nat) (l : FL) (b p : Nat × Nat × Nat), foldGo w i l b = p →
    p = b ∨ ∃ pre x r l1, w = pre ++ x :: r ∧ p.1 = i + pre.length + 1 ∧ stepsF l pre = some l1 ∧ Ends l1 x p.2.1 p.2.2
  | [], i, l, b, p, h => .inl h.symm
  | x :: r, i, l, b, p, h => by
    rw [foldGo] at h
    dsimp only at h
    by_cases h1 : (takeF l x).1 = 1
    · rw [if_pos h1] at h; exact .inl h.symm
    rw [if_neg h1] at h
    have hc := takeF_c l x
    -- what is best behind this instruction
    have hbest : ∀ b2 : Nat × Nat × Nat, b2 = (if 0 < i ∧ (takeF l x).2.n = 0 then (if (takeF l x).1 = 2 then (i + 1, 3, x.arg) else (i + 1, 4, 0)) else if 0 < i ∧ (takeF l x).1 = 0 ∧ (takeF l x).2.n = 1 then (i + 1, 2, (takeF l x).2.at_ 0) else b) →
        b2 = b ∨ (b2.1 = i + 1 ∧ Ends l x b2.2.1 b2.2.2) := by
      intro b2 hb2
      subst hb2
      by_cases e1 : 0 < i ∧ (takeF l x).2.n = 0
      · rw [if_pos e1]
        by_cases e2 : (takeF l x).1 = 2
        · rw [if_pos e2]; exact .inr ⟨rfl, .inr (.inl ⟨rfl, e2, e1.2, rfl⟩)⟩
        · rw [if_neg e2]; exact .inr ⟨rfl, .inr (.inr ⟨rfl, by omega, e1.2⟩)⟩
      · rw [if_neg e1]
        by_cases e3 : 0 < i ∧ (takeF l x).1 = 0 ∧ (takeF l x).2.n = 1
        · rw [if_pos e3]; exact .inr ⟨rfl, .inl ⟨rfl, e3.2.1, e3.2.2, rfl⟩⟩
        · rw [if_neg e3]; exact .inl rfl
    have hb := hbest _ rfl
    generalize (if 0 < i ∧ (takeF l x).2.n = 0 then (if (takeF l x).1 = 2 then (i + 1, 3, x.arg) else (i + 1, 4, 0)) else if 0 < i ∧ (takeF l x).1 = 0 ∧ (takeF l x).2.n = 1 then (i + 1, 2, (takeF l x).2.at_ 0) else b) = b2 at h hb
    have here : p = b2 → p = b ∨ ∃ pre x' r' l1, x :: r = pre ++ x' :: r' ∧ p.1 = i + pre.length + 1 ∧ stepsF l pre = some l1 ∧ Ends l1 x' p.2.1 p.2.2 := by
      rintro rfl
      rcases hb with hb | ⟨hb1, hb2⟩
      · exact .inl hb
      · exact .inr ⟨[], x, r, l, rfl, by simpa using hb1, rfl, hb2⟩
    by_cases h0 : (takeF l x).1 = 0
    · rw [if_pos h0] at h
      rcases foldGo_tells r (i + 1) (takeF l x).2 b2 p h with hp | ⟨pre, x', r', l1, e1, e2, e3, e4⟩
      · exact here hp
      · refine .inr ⟨x :: pre, x', r', l1, by rw [e1]; rfl, by rw [e2, List.length_cons]; omega, ?_, e4⟩
        show (if (takeF l x).1 = 0 then stepsF (takeF l x).2 pre else none) = _
        rw [if_pos h0]; exact e3
    · rw [if_neg h0] at h
      exact here h.symm
end
end Go.Proofs.Ytjmipgfaghjgmaa
end
section
namespace Go.Proofs.Ytjmipgfaghjgmaa
open Go Go.Sim
set_option maxRecDepth 100000
set_option linter.unusedSimpArgs false
set_option linter.unusedVariables false
def runs (S : PS) (l : List Instr) : PS := l.foldl takeS S
theorem runs_append (S : PS) (a b : List Instr) : runs S (a ++ b) = runs (runs S a) b := List.foldl_append
/-- Ahead of each instruction the machine is well, its data are as they were, its place is the instruction's. -/
def Fine (S : PS) (l : List Instr) (D : List Nat) (pc N : Nat) : Prop := ∀ i, i < l.length → (runs S (l.take i)).bad = false ∧ (runs S (l.take i)).data = D ∧ (runs S (l.take i)).pc = pc + i ∧ (runs S (l.take i)).ops.length ≤ N
theorem incW_eq {pc : Nat} (h : pc + 1 < 4294967296) : incW pc = pc + 1 := by
  have hw : IntKind.u32.wrap ((pc : Int) + 1) = ((pc : Int) + 1) % 4294967296 := by simp [IntKind.wrap, IntKind.signed, IntKind.bits]
  unfold incW
  rw [hw]; omega
section
variable {S : PS} {sp : Nat} {base D : List Nat} {pc N : Nat}
theorem fine_nil : Fine S [] D pc N := fun i hi => by simp at hi
theorem fine_append {a b : List Instr} (ha : Fine S a D pc N) (hb : Fine (runs S a) b D (pc + a.length) N) : Fine S (a ++ b) D pc N := by
  intro i hi
  by_cases h : i < a.length
  · rw [List.take_append_of_le_length (by omega)]; exact ha i h
  · have hi' : i - a.length < b.length := by simp at hi; omega
    rw [show i = a.length + (i - a.length) by omega, List.take_length_add_append, runs_append]
    obtain ⟨h1, h2, h3, h4⟩ := hb _ hi'
    exact ⟨h1, h2, by rw [h3]; omega, h4⟩
theorem fine_one {ops : List Nat} (x : Instr) (h : Is S sp ops D pc false) (hN : ops.length ≤ N) : Fine S [x] D pc N := by
  intro i hi
  have : i = 0 := by simpa using hi
  subst this
  exact ⟨h.bad, h.data, h.pc, by rw [show (runs S ([x].take 0)).ops = ops from h.ops]; exact hN⟩
theorem words_len {l : FL} (h : l.n ≤ 64) : (words l).length ≤ 64 := by unfold words; rw [List.length_take]; omega
theorem steps_run (hN : base.length + 64 ≤ N) : ∀ (pre : List Instr) (S : PS) (l l1 : FL) (pc : Nat), stepsF l pre = some l1 → l.n ≤ 64 → Is S sp (base ++ words l) D pc false → pc + pre.length < 4294967296 →
    Fine S pre D pc N ∧ Is (runs S pre) sp (base ++ words l1) D (pc + pre.length) false ∧ l1.n ≤ 64
  | [], S, l, l1, pc, h, hn, hI, hp => by
    simp only [stepsF, Option.some.injEq] at h
    subst h
    exact ⟨fine_nil, hI, hn⟩
  | x :: r, S, l, l1, pc, h, hn, hI, hp => by
    rw [List.length_cons] at hp ⊢
    unfold stepsF at h
    split at h
    · rename_i h0
      have hs := (sim1 (x := x) (l := l) (l' := (takeF l x).2) (c := (takeF l x).1) hn rfl (by omega) hI).1 h0
      rw [incW_eq (by omega)] at hs
      obtain ⟨g1, g2, g3⟩ := steps_run hN r (takeS S x) (takeF l x).2 l1 (pc + 1) h (takeF_n l x hn) hs (by omega)
      refine ⟨?_, ?_, g3⟩
      · exact fine_append (a := [x]) (fine_one x hI (by have := words_len hn; rw [List.length_append]; omega)) g1
      · rw [show pc + (r.length + 1) = pc + 1 + r.length by omega]; exact g2
    · cases h
theorem words_nil : words FL.nil = [] := rfl
/-- A piece of more than one instruction. -/
theorem piece_run {w : List Instr} {p : Nat × Nat × Nat} (hp : foldF w = .ok p) (hk : p.2.1 ≠ 1) (hI : Is S sp base D pc false) (hlen : pc + w.length < 4294967296) (hN : base.length + 64 ≤ N) :
    p.1 ≤ w.length ∧ Fine S (w.take p.1) D pc N ∧ ((p.2.1 = 2 ∧ Is (runs S (w.take p.1)) sp (base ++ [p.2.2]) D (pc + p.1) false) ∨ (p.2.1 = 3 ∧ Is (runs S (w.take p.1)) sp base D p.2.2 false) ∨ (p.2.1 = 4 ∧ Is (runs S (w.take p.1)) sp base D (pc + p.1) false)) := by
  cases w with
  | nil => simp [foldF] at hp
  | cons y r0 =>
    unfold foldF at hp
    dsimp only at hp
    split at hp
    case isFalse => cases hp
    simp only [Except.ok.injEq] at hp
    rcases foldGo_tells (y :: r0) 0 FL.nil (1, 1, 0) p hp with rfl | ⟨pre, x, r, l1, hw, hp1, hst, hend⟩
    · exact absurd rfl hk
    · generalize y :: r0 = w at hw hlen ⊢
      subst hw
      have hI0 : Is S sp (base ++ words FL.nil) D pc false := by rw [words_nil, List.append_nil]; exact hI
      rw [List.length_append, List.length_cons] at hlen
      obtain ⟨g1, g2, g3⟩ := steps_run hN pre S FL.nil l1 pc hst (by simp [FL.nil]) hI0 (by omega)
      have htk : (pre ++ x :: r).take p.1 = pre ++ [x] := by
        rw [hp1, show 0 + pre.length + 1 = pre.length + 1 by omega, List.take_length_add_append]; rfl
      refine ⟨by rw [List.length_append, List.length_cons, hp1]; omega, ?_, ?_⟩
      · rw [htk]; exact fine_append g1 (fine_one x g2 (by have := words_len g3; rw [List.length_append]; omega))
      · rw [htk, runs_append]
        have hc := takeF_c l1 x
        have hrun : runs (runs S pre) [x] = takeS (runs S pre) x := rfl
        rw [hrun]
        rcases hend with ⟨e1, e2, e3, e4⟩ | ⟨e1, e2, e3, e4⟩ | ⟨e1, e2, e3⟩
        · left
          have hs := (sim1 (x := x) (l := l1) (l' := (takeF l1 x).2) (c := (takeF l1 x).1) g3 rfl (by omega) g2).1 e2
          rw [incW_eq (by omega)] at hs
          have hw : words (takeF l1 x).2 = [(takeF l1 x).2.at_ 0] := by
            have := words_one (l := (takeF l1 x).2) (by omega) (by omega)
            rw [e3] at this
            simpa using this
          rw [hw] at hs
          rw [e4, show pc + p.1 = pc + pre.length + 1 by omega]
          exact ⟨e1, hs⟩
        · right; left
          have hs := (sim1 (x := x) (l := l1) (l' := (takeF l1 x).2) (c := (takeF l1 x).1) g3 rfl (by omega) g2).2.1 e2
          have hw : words (takeF l1 x).2 = [] := by unfold words; rw [e3]; rfl
          rw [hw, List.append_nil] at hs
          rw [e4]
          exact ⟨e1, hs⟩
        · right; right
          have hw : words (takeF l1 x).2 = [] := by unfold words; rw [e3]; rfl
          have hs := sim1 (x := x) (l := l1) (l' := (takeF l1 x).2) (c := (takeF l1 x).1) g3 rfl (by omega) g2
          rw [hw, List.append_nil, incW_eq (by omega)] at hs
          rw [show pc + p.1 = pc + pre.length + 1 by omega]
          rcases e2 with e2 | e2
          · exact ⟨e1, hs.1 e2⟩
          · exact ⟨e1, hs.2.2 e2⟩
theorem opF_get {w : List Instr} {n : Nat} (h : (opF w n).op ≠ 0) : ∃ hn : n < w.length, w[n] = opF w n ∧ insBad w[n] = 0 := by
  unfold opF at h ⊢
  by_cases hn : n < w.length
  · rw [List.getElem?_eq_getElem hn] at h ⊢
    dsimp only at h ⊢
    by_cases hb : insBad w[n] = 0
    · rw [if_pos hb]; exact ⟨hn, rfl, hb⟩
    · rw [if_neg hb] at h; exact absurd rfl h
  · rw [List.getElem?_eq_none (by omega)] at h; exact absurd rfl h
/-- A constant. -/
theorem const_run {w : List Instr} {f n k : Nat} (hc : constF w f n = (k, true)) (hI : Is S sp base D pc false) (hlen : pc + n < 4294967296) (hN : base.length + 64 ≤ N) :
    1 ≤ n ∧ f + n ≤ w.length ∧ Fine S ((w.drop f).take n) D pc N ∧ Is (runs S ((w.drop f).take n)) sp (base ++ [k]) D (pc + n) false := by
  unfold constF at hc
  by_cases h0 : n < 1 ∨ w.length < f + n
  · rw [if_pos h0] at hc; cases hc
  rw [if_neg h0] at hc
  refine ⟨by omega, by omega, ?_⟩
  have hl : ((w.drop f).take n).length = n := by simp; omega
  by_cases h1 : n = 1
  · subst h1
    rw [if_pos rfl] at hc
    simp only [Prod.mk.injEq, decide_eq_true_eq] at hc
    obtain ⟨hf, hg, hb⟩ := opF_get (w := w) (n := f) (by rw [hc.2]; omega)
    have htk : (w.drop f).take 1 = [w[f]] := by rw [List.drop_eq_getElem_cons hf]; rfl
    rw [htk]
    refine ⟨fine_one _ hI (by omega), ?_⟩
    have hs := tk_const (i := w[f]) (by rw [hg]; exact hc.2) hI
    rw [incW_eq hlen, hg, hc.1] at hs
    rw [hg]; exact hs
  · rw [if_neg h1] at hc
    cases hr : foldF ((w.drop f).take n) with
    | error e => rw [hr] at hc; cases hc
    | ok p =>
      rw [hr] at hc
      simp only [Prod.mk.injEq, decide_eq_true_eq] at hc
      obtain ⟨rfl, hk, hp⟩ := hc
      obtain ⟨_, g2, g3⟩ := piece_run hr (by omega) hI (by rw [hl]; exact hlen) hN
      rw [hp, List.take_of_length_le (by omega)] at g2 g3
      refine ⟨g2, ?_⟩
      rcases g3 with ⟨_, g⟩ | ⟨e, _⟩ | ⟨e, _⟩
      · exact g
      · omega
      · omega
end
end Go.Proofs.Ytjmipgfaghjgmaa
end
section
namespace Go.Proofs.Ytjmipgfaghjgmaa
open Go Go.Sim
set_option maxRecDepth 100000
set_option linter.unusedSimpArgs false
set_option linter.unusedVariables false
theorem take_split {w : List Instr} {n : Nat} (h : n < w.length) : w.take (n + 1) = w.take n ++ [w[n]] := by
  rw [List.take_add_one, List.getElem?_eq_getElem h]; rfl
/-- What longest gives is what a shape makes. -/
theorem longGo_from (w : List Instr) : ∀ (n k : Nat) (b : Nat × Shp), longGo w n k b = b ∨ ∃ k', k ≤ k' ∧ k' < k + n ∧ longGo w n k b = (k', fitsF w k') ∧ b.2.len < (fitsF w k').len
  | 0, k, b => .inl rfl
  | n + 1, k, b => by
    rw [longGo]
    by_cases h : b.2.len < (fitsF w k).len
    · rw [if_pos h]
      rcases longGo_from w n (k + 1) (k, fitsF w k) with h1 | ⟨k', h1, h2, h3, h4⟩
      · exact .inr ⟨k, Nat.le_refl _, by omega, h1, h⟩
      · exact .inr ⟨k', by omega, by omega, h3, by dsimp only at h4; omega⟩
    · rw [if_neg h]
      rcases longGo_from w n (k + 1) b with h1 | ⟨k', h1, h2, h3, h4⟩
      · exact .inl h1
      · exact .inr ⟨k', by omega, by omega, h3, h4⟩
theorem longF_from {w : List Instr} {p : Nat × Shp} (h : longF w = .ok p) : 1 ≤ p.1 ∧ p.1 ≤ 15 ∧ p.2 = fitsF w p.1 ∧ (p.1 = 1 ∨ 2 ≤ p.2.len) := by
  cases w with
  | nil => simp [longF] at h
  | cons x r =>
    unfold longF at h
    dsimp only at h
    split at h
    · rename_i hx
      simp only [Except.ok.injEq] at h
      have h1 := fits_one (w := x :: r) rfl hx
      have e : longGo (x :: r) 15 1 (0, Shp.none) = longGo (x :: r) 14 2 (1, fitsF (x :: r) 1) := by
        rw [longGo, if_pos (by rw [h1]; simp [Shp.none])]
      rw [e] at h
      rcases longGo_from (x :: r) 14 2 (1, fitsF (x :: r) 1) with h2 | ⟨k', h2, h3, h4, h5⟩
      · rw [← h, h2]; exact ⟨by omega, by omega, rfl, .inl rfl⟩
      · rw [← h, h4]
        dsimp only at h5 ⊢
        exact ⟨by omega, by omega, rfl, .inr (by omega)⟩
    · cases h
section
variable {S : PS} {sp : Nat} {o D : List Nat} {a pc : Nat}
/-- How a thing ends: alike. -/
def Alike (S S' : PS) : Prop := ∃ sp ops D pc bad, Is S sp ops D pc bad ∧ Is S' sp ops D pc bad
theorem addW_eq {x y : Nat} (h : x + y < 4294967296) : addW x y = x + y := by
  have hw : IntKind.u32.wrap ((x : Int) + y) = ((x : Int) + y) % 4294967296 := by simp [IntKind.wrap, IntKind.signed, IntKind.bits]
  unfold addW
  rw [hw]; omega
theorem behindGo_ok {is : Nat → Bool} {p q : Bool} {w : List Instr} (h0 : is 0 = false) : ∀ n, (behindGo is p q w n).len ≠ 0 → ∃ m k, behindGo is p q w n = keepF p q ⟨m + 2, 0, k, 0⟩ (opF w (m + 1)) ∧ constF w 0 (m + 1) = (k, true) ∧ is (opF w (m + 1)).op = true ∧ ∃ hm : m + 1 < w.length, w[m + 1] = opF w (m + 1)
  | 0, h => absurd rfl h
  | n + 1, h => by
    rw [behindGo] at h ⊢
    by_cases hc : (constF w 0 (n + 1)).2 = true ∧ is (opF w (n + 1)).op = true
    · rw [if_pos hc]
      have hop : (opF w (n + 1)).op ≠ 0 := by intro e; rw [e, h0] at hc; cases hc.2
      obtain ⟨hm, hg, _⟩ := opF_get hop
      refine ⟨n, (constF w 0 (n + 1)).1, rfl, ?_, hc.2, hm, hg⟩
      rw [← hc.1]
    · rw [if_neg hc] at h ⊢
      exact behindGo_ok h0 n h
/-- Behind a constant. -/
theorem behind_run {w : List Instr} {m k : Nat} (hc : constF w 0 (m + 1) = (k, true)) {ops : List Nat} (hI : Is S sp ops D pc false) (hm : m + 1 < w.length) (hlen : pc + w.length < 4294967296) :
    Fine S (w.take (m + 2)) D pc (ops.length + 70) ∧ runs S (w.take (m + 2)) = takeS (runs S (w.take (m + 1))) w[m + 1] ∧ Is (runs S (w.take (m + 1))) sp (ops ++ [k]) D (pc + (m + 1)) false := by
  obtain ⟨_, _, g1, g2⟩ := const_run (N := ops.length + 70) hc hI (by omega) (by omega)
  rw [List.drop_zero] at g1 g2
  have ht := take_split hm
  rw [show m + 1 + 1 = m + 2 by rfl] at ht
  refine ⟨?_, ?_, g2⟩
  · rw [ht]
    refine fine_append g1 (fine_one (sp := sp) (ops := ops ++ [k]) _ ?_ (by rw [List.length_append]; simp))
    rw [List.length_take, show min (m + 1) w.length = m + 1 by omega]
    exact g2
  · rw [ht, runs_append]; rfl
theorem binF_rng {op : Nat} (h : binF op = true) : 36 ≤ op ∧ kindF op = 1 ∧ givesF op = 1 ∧ takesF op = 2 := by
  have hd : ∀ op < 60, binF op = true → 36 ≤ op ∧ kindF op = 1 ∧ givesF op = 1 ∧ takesF op = 2 := by decide
  refine hd op ?_ h
  simp [binF, isOp] at h; omega
theorem harmF_rng {op b : Nat} (h : harmF op = true) : binE op b = 0 := by
  have hd : ∀ op < 60, harmF op = true → isBin op = true ∧ op ≠ 42 ∧ op ≠ 43 ∧ op ≠ 44 ∧ op ≠ 45 := by decide
  have h60 : op < 60 := by simp [harmF, binF, isOp] at h; omega
  obtain ⟨h1, h2, h3, h4, h5⟩ := hd op h60 h
  have hn : divs op b = false := by simp [divs]; omega
  unfold binE
  rw [hn, h1]; rfl
theorem isCmp_rng {op : Nat} (h : isCmpF op = true) : kindF op = 2 := by
  have hd : ∀ op < 60, isCmpF op = true → kindF op = 2 := by decide
  refine hd op ?_ h
  simp [isCmpF] at h; omega
/-- The thing's own ends. -/
theorem end_bin {at_ k : Nat} {f : Shp} {b : Nat} (hI : Is S sp (o ++ [a]) D pc false) (hk : thingS S at_ k f = (((S.withPc (addW at_ f.len)).pop.2.withBad ((S.withPc (addW at_ f.len)).pop.2.bad || !decide (binE f.op b = 0))).push (binW f.op (S.withPc (addW at_ f.len)).pop.1 b))) :
    Is (thingS S at_ k f) sp (o ++ [binW f.op a b]) D (addW at_ f.len) (!decide (binE f.op b = 0)) := by
  obtain ⟨h1, h2⟩ := (hI.pcs (addW at_ f.len)).pops
  rw [hk, h1, h2.bad, Bool.false_or]
  exact (h2.bads (bad := false) _).pushs _
theorem end_cmp {at_ k : Nat} {f : Shp} {b : Nat} (hI : Is S sp (o ++ [a]) D pc false) (hk : thingS S at_ k f = (if holdsF f.op (S.withPc (addW at_ f.len)).pop.1 b then (S.withPc (addW at_ f.len)).pop.2.withPc f.b else (S.withPc (addW at_ f.len)).pop.2)) :
    Is (thingS S at_ k f) sp o D (if holdsF f.op a b then f.b else addW at_ f.len) false := by
  obtain ⟨h1, h2⟩ := (hI.pcs (addW at_ f.len)).pops
  rw [hk, h1]
  cases holdsF f.op a b
  · simpa using h2
  · simpa using h2.pcs f.b
/-- What has to be shown of a thing. -/
def Good (S : PS) (w : List Instr) (sp : Nat) (base D : List Nat) (pc k : Nat) (f : Shp) : Prop :=
  Fine S (w.take f.len) D pc (base.length + 70) ∧ (k ≠ 8 → Alike (runs S (w.take f.len)) (thingS S pc k f)) ∧
    (k = 8 → ∃ hm : f.len - 1 < w.length, 1 ≤ f.len ∧ w[f.len - 1].op = 5 ∧ Is (runs S (w.take (f.len - 1))) sp (base ++ [f.a]) D (pc + (f.len - 1)) false)
theorem good_folded {w : List Instr} {base : List Nat} {k : Nat} (hk : k = 2 ∨ k = 3 ∨ k = 4) (hf : (foldedF k w).len ≠ 0) (hI : Is S sp base D pc false) (hlen : pc + w.length < 4294967296) : Good S w sp base D pc k (foldedF k w) := by
  unfold foldedF at hf ⊢
  cases hr : foldF w with
  | error e => rw [hr] at hf; exact absurd rfl hf
  | ok p =>
    rw [hr] at hf
    dsimp only at hf ⊢
    by_cases hc : p.2.1 = k ∧ 2 ≤ p.1
    · rw [if_pos hc] at hf ⊢
      obtain ⟨h1, h2, h3⟩ := piece_run (N := base.length + 70) hr (by omega) hI hlen (by omega)
      refine ⟨h2, fun _ => ?_, fun h => by omega⟩
      have hpc : addW pc p.1 = pc + p.1 := addW_eq (by omega)
      have hw := hI.pcs (addW pc p.1)
      rw [hpc] at hw
      rcases hk with rfl | rfl | rfl
      · rcases h3 with ⟨_, g⟩ | ⟨e, _⟩ | ⟨e, _⟩
        · refine ⟨_, _, _, _, _, g, ?_⟩
          show Is ((S.withPc (addW pc p.1)).push p.2.2) _ _ _ _ _
          rw [hpc]; exact hw.pushs _
        · omega
        · omega
      · rcases h3 with ⟨e, _⟩ | ⟨_, g⟩ | ⟨e, _⟩
        · omega
        · refine ⟨_, _, _, _, _, g, ?_⟩
          show Is ((S.withPc (addW pc p.1)).withPc p.2.2) _ _ _ _ _
          exact (hI.pcs _).pcs _
        · omega
      · rcases h3 with ⟨e, _⟩ | ⟨e, _⟩ | ⟨_, g⟩
        · omega
        · omega
        · refine ⟨_, _, _, _, _, g, ?_⟩
          show Is (S.withPc (addW pc p.1)) _ _ _ _ _
          rw [hpc]; exact hw
    · rw [if_neg hc] at hf; exact absurd rfl hf
theorem good_behind {w : List Instr} {is : Nat → Bool} {p q : Bool} {k : Nat} (h0 : is 0 = false) (hk : (k = 5 ∧ is = binF ∧ p = true) ∨ (k = 6 ∧ is = isCmpF ∧ p = true ∧ q = true) ∨ (k = 7 ∧ is = isArgF ∧ q = true) ∨ (k = 8 ∧ is = isCallF) ∨ (k = 9 ∧ is = isLoadF ∧ p = true) ∨ (k = 10 ∧ is = isStoreF ∧ p = true))
    (hf : (behindGo is p q w 16).len ≠ 0) (hD : D.length = 256) (hI : Is S sp (o ++ [a]) D pc false) (hlen : pc + w.length < 4294967296) : Good S w sp (o ++ [a]) D pc k (behindGo is p q w 16) := by
  obtain ⟨m, c, e1, e2, e3, hm, e4⟩ := behindGo_ok h0 16 hf
  rw [e1]
  obtain ⟨g1, g2, g3⟩ := behind_run e2 hI hm hlen
  rw [← e4] at e3 ⊢
  generalize hi : w[m + 1] = i at *
  have hpc : addW pc (m + 2) = pc + (m + 2) := addW_eq (by omega)
  have hinc : incW (pc + (m + 1)) = pc + (m + 2) := incW_eq (by omega)
  refine ⟨g1, fun hk8 => ?_, fun hk8 => ?_⟩
  · show Alike (runs S (w.take (m + 2))) _
    rw [g2]
    have hp := hI.pcs (addW pc (m + 2))
    rw [hpc] at hp
    rcases hk with ⟨rfl, rfl, rfl⟩ | ⟨rfl, rfl, rfl, rfl⟩ | ⟨rfl, rfl, rfl⟩ | ⟨rfl, _⟩ | ⟨rfl, rfl, rfl⟩ | ⟨rfl, rfl, rfl⟩
    · obtain ⟨r1, r2, r3, r4⟩ := binF_rng e3
      have h1 := tk_binary r1 r2 r3 r4 g3
      have h2 := end_bin (at_ := pc) (k := 5) (f := keepF true q ⟨m + 2, 0, c, 0⟩ i) (b := c) hI rfl
      rw [hinc] at h1
      exact ⟨_, _, _, _, _, h1, by simpa only [keepF, if_true, hpc] using h2⟩
    · have h1 := tk_branch (isCmp_rng e3) g3
      have h2 := end_cmp (at_ := pc) (k := 6) (f := keepF true true ⟨m + 2, 0, c, 0⟩ i) (b := c) hI rfl
      rw [hinc] at h1
      exact ⟨_, _, _, _, _, h1, by simpa only [keepF, if_true, hpc] using h2⟩
    · have h12 : i.op = 12 := by simpa [isArgF] using e3
      have h1 := tk_arg hD h12 g3
      rw [hinc] at h1
      refine ⟨_, _, _, _, _, h1, ?_⟩
      show Is ((S.withPc (addW pc (m + 2))).store (argW S.sp i.arg) c 4) _ _ _ _ _
      rw [hpc, hI.sp]
      exact hp.stores _ _ _ hD
    · exact absurd rfl hk8
    · have hl : 29 ≤ i.op ∧ i.op ≤ 31 := by simpa [isLoadF] using e3
      have h1 := tk_load hl g3
      rw [hinc] at h1
      refine ⟨_, _, _, _, _, h1, ?_⟩
      show Is ((S.withPc (addW pc (m + 2))).push (loadW S.data c (sizeF i.op))) _ _ _ _ _
      rw [hpc, hI.data]
      exact hp.pushs _
    · have hl : 32 ≤ i.op ∧ i.op ≤ 34 := by simpa [isStoreF] using e3
      have h1 := tk_store hD hl g3
      rw [hinc] at h1
      refine ⟨_, _, _, _, _, h1, ?_⟩
      show Is ((S.withPc (addW pc (m + 2))).pop.2.store (S.withPc (addW pc (m + 2))).pop.1 c (sizeF i.op)) _ _ _ _ _
      rw [hpc]
      obtain ⟨k1, k2⟩ := hp.pops
      rw [k1]
      exact k2.stores _ _ _ hD
  · subst hk8
    rcases hk with ⟨e, _⟩ | ⟨e, _⟩ | ⟨e, _⟩ | ⟨_, rfl⟩ | ⟨e, _⟩ | ⟨e, _⟩
    · omega
    · omega
    · omega
    · have h5 : i.op = 5 := by simpa [isCallF] using e3
      refine ⟨hm, by show 1 ≤ m + 2; omega, ?_, ?_⟩
      · show w[m + 1].op = 5
        rw [hi]; exact h5
      · exact g3
    · omega
    · omega
theorem one_len {x : Instr} : ([x] : List Instr).length = 1 := rfl
theorem good_local1 {w : List Instr} {is : Nat → Bool} {p q : Bool} {k : Nat} {base : List Nat} (h0 : is 0 = false) (hk : (k = 11 ∧ is = isArgF ∧ q = true) ∨ (k = 12 ∧ is = isLoadF ∧ p = true))
    (hf : (localF false is p q w).len ≠ 0) (hD : D.length = 256) (hI : Is S sp base D pc false) (hlen : pc + w.length < 4294967296) : Good S w sp base D pc k (localF false is p q w) := by
  have hsh : localF false is p q w = if (opF w 0).op = 9 ∧ is (opF w 1).op = true ∧ (false = true → (opF w 1).op = 31) then keepF p q ⟨2, 0, (opF w 0).arg, 0⟩ (opF w 1) else Shp.none := rfl
  rw [hsh] at hf ⊢
  by_cases hc : (opF w 0).op = 9 ∧ is (opF w 1).op = true ∧ (false = true → (opF w 1).op = 31)
  case neg => rw [if_neg hc] at hf; exact absurd rfl hf
  rw [if_pos hc]
  obtain ⟨hm0, e0, _⟩ := opF_get (w := w) (n := 0) (by rw [hc.1]; omega)
  obtain ⟨hm1, e1, _⟩ := opF_get (w := w) (n := 1) (by intro e; have := hc.2.1; rw [e, h0] at this; cases this)
  obtain ⟨c0, c1, _⟩ := hc
  rw [← e0] at c0 ⊢
  rw [← e1] at c1 ⊢
  have ht1 : w.take 1 = [w[0]] := by rw [take_split hm0]; rfl
  have ht2 : w.take 2 = [w[0]] ++ [w[1]] := by rw [take_split hm1, ht1]
  generalize w[0] = i0 at *
  generalize w[1] = i1 at *
  have s0 := tk_local c0 hI
  rw [incW_eq (by omega)] at s0
  have hpc : addW pc 2 = pc + 2 := addW_eq (by omega)
  have hinc : incW (pc + 1) = pc + 2 := incW_eq (by omega)
  have hp := hI.pcs (addW pc 2)
  rw [hpc] at hp
  refine ⟨?_, fun hk8 => ?_, fun hk8 => by omega⟩
  · show Fine S (w.take 2) D pc _
    rw [ht2]
    exact fine_append (fine_one _ hI (by omega)) (fine_one (sp := sp) (ops := base ++ [addW sp i0.arg]) _ s0 (by simp))
  · show Alike (runs S (w.take 2)) _
    rw [ht2]
    have hrun : runs S ([i0] ++ [i1]) = takeS (takeS S i0) i1 := rfl
    rw [hrun]
    rcases hk with ⟨rfl, rfl, rfl⟩ | ⟨rfl, rfl, rfl⟩
    · have h12 : i1.op = 12 := by simpa [isArgF] using c1
      have h1 := tk_arg hD h12 s0
      rw [hinc] at h1
      refine ⟨_, _, _, _, _, h1, ?_⟩
      show Is ((S.withPc (addW pc 2)).store (argW S.sp i1.arg) (addW S.sp i0.arg) 4) _ _ _ _ _
      rw [hpc, hI.sp]
      exact hp.stores _ _ _ hD
    · have hl : 29 ≤ i1.op ∧ i1.op ≤ 31 := by simpa [isLoadF] using c1
      have h1 := tk_load hl s0
      rw [hinc] at h1
      refine ⟨_, _, _, _, _, h1, ?_⟩
      show Is ((S.withPc (addW pc 2)).push (loadW S.data (addW S.sp i0.arg) (sizeF i1.op))) _ _ _ _ _
      rw [hpc, hI.data, hI.sp]
      exact hp.pushs _
theorem good_local2 {w : List Instr} {is : Nat → Bool} {p q : Bool} {k : Nat} (h0 : is 0 = false) (hk : (k = 13 ∧ is = binF ∧ p = true) ∨ (k = 14 ∧ is = isCmpF ∧ p = true ∧ q = true))
    (hf : (localF true is p q w).len ≠ 0) (hD : D.length = 256) (hI : Is S sp (o ++ [a]) D pc false) (hlen : pc + w.length < 4294967296) : Good S w sp (o ++ [a]) D pc k (localF true is p q w) := by
  have hsh : localF true is p q w = if (opF w 0).op = 9 ∧ is (opF w 2).op = true ∧ (true = true → (opF w 1).op = 31) then keepF p q ⟨3, 0, (opF w 0).arg, 0⟩ (opF w 2) else Shp.none := rfl
  rw [hsh] at hf ⊢
  by_cases hc : (opF w 0).op = 9 ∧ is (opF w 2).op = true ∧ (true = true → (opF w 1).op = 31)
  case neg => rw [if_neg hc] at hf; exact absurd rfl hf
  rw [if_pos hc]
  obtain ⟨hm0, e0, _⟩ := opF_get (w := w) (n := 0) (by rw [hc.1]; omega)
  obtain ⟨hm1, e1, _⟩ := opF_get (w := w) (n := 1) (by rw [hc.2.2 rfl]; omega)
  obtain ⟨hm2, e2, _⟩ := opF_get (w := w) (n := 2) (by intro e; have := hc.2.1; rw [e, h0] at this; cases this)
  obtain ⟨c0, c2, c1⟩ := hc
  replace c1 := c1 rfl
  rw [← e0] at c0 ⊢
  rw [← e1] at c1
  rw [← e2] at c2 ⊢
  have ht1 : w.take 1 = [w[0]] := by rw [take_split hm0]; rfl
  have ht2 : w.take 2 = [w[0]] ++ [w[1]] := by rw [take_split hm1, ht1]
  have ht3 : w.take 3 = ([w[0]] ++ [w[1]]) ++ [w[2]] := by rw [take_split hm2, ht2]
  generalize w[0] = i0 at *
  generalize w[1] = i1 at *
  generalize w[2] = i2 at *
  have s0 := tk_local c0 hI
  rw [incW_eq (by omega)] at s0
  have s1 := tk_load (i := i1) (by omega) s0
  rw [incW_eq (by omega)] at s1
  have hsz : sizeF i1.op = 4 := by unfold sizeF; rw [if_neg (by omega), if_neg (by omega)]
  rw [hsz] at s1
  have hpc : addW pc 3 = pc + 3 := addW_eq (by omega)
  have hinc : incW (pc + 1 + 1) = pc + 3 := incW_eq (by omega)
  refine ⟨?_, fun hk8 => ?_, fun hk8 => by omega⟩
  · show Fine S (w.take 3) D pc _
    rw [ht3]
    refine fine_append (fine_append (fine_one _ hI (by omega)) (fine_one (sp := sp) (ops := o ++ [a] ++ [addW sp i0.arg]) _ s0 (by simp))) (fine_one (sp := sp) (ops := o ++ [a] ++ [loadW D (addW sp i0.arg) 4]) _ s1 (by simp))
  · show Alike (runs S (w.take 3)) _
    rw [ht3]
    have hrun : runs S (([i0] ++ [i1]) ++ [i2]) = takeS (takeS (takeS S i0) i1) i2 := rfl
    rw [hrun]
    have hld : loadW (S.withPc (addW pc 3)).data (addW (S.withPc (addW pc 3)).sp i0.arg) 4 = loadW D (addW sp i0.arg) 4 := by
      rw [show (S.withPc (addW pc 3)).data = D from hI.data, show (S.withPc (addW pc 3)).sp = sp from hI.sp]
    rcases hk with ⟨rfl, rfl, rfl⟩ | ⟨rfl, rfl, rfl, rfl⟩
    · obtain ⟨r1, r2, r3, r4⟩ := binF_rng c2
      have h1 := tk_binary r1 r2 r3 r4 s1
      have h2 := end_bin (at_ := pc) (k := 13) (f := keepF true q ⟨3, 0, i0.arg, 0⟩ i2) (b := loadW (S.withPc (addW pc 3)).data (addW (S.withPc (addW pc 3)).sp i0.arg) 4) hI rfl
      rw [hinc] at h1
      rw [hld] at h2
      exact ⟨_, _, _, _, _, h1, by simpa only [keepF, if_true, hpc] using h2⟩
    · have h1 := tk_branch (isCmp_rng c2) s1
      have h2 := end_cmp (at_ := pc) (k := 14) (f := keepF true true ⟨3, 0, i0.arg, 0⟩ i2) (b := loadW (S.withPc (addW pc 3)).data (addW (S.withPc (addW pc 3)).sp i0.arg) 4) hI rfl
      rw [hinc] at h1
      rw [hld] at h2
      exact ⟨_, _, _, _, _, h1, by simpa only [keepF, if_true, hpc] using h2⟩
theorem bumpGo_ok {w : List Instr} : ∀ n, (bumpGo w n).len ≠ 0 → ∃ m c, bumpGo w n = ⟨m + 6, (opF w (m + 4)).op, (opF w 0).arg, c⟩ ∧ constF w 3 (m + 1) = (c, true) ∧ harmF (opF w (m + 4)).op = true ∧ (opF w (m + 5)).op = 34
  | 0, h => absurd rfl h
  | n + 1, h => by
    rw [bumpGo] at h ⊢
    by_cases hc : (constF w 3 (n + 1)).2 = true ∧ harmF (opF w (n + 4)).op = true ∧ (opF w (n + 5)).op = 34
    · rw [if_pos hc]
      exact ⟨n, (constF w 3 (n + 1)).1, rfl, by rw [← hc.1], hc.2.1, hc.2.2⟩
    · rw [if_neg hc] at h ⊢
      exact bumpGo_ok n h
theorem good_bump {w : List Instr} {base : List Nat} (hf : (bumpF w).len ≠ 0) (hD : D.length = 256) (hI : Is S sp base D pc false) (hlen : pc + w.length < 4294967296) : Good S w sp base D pc 15 (bumpF w) := by
  unfold bumpF at hf ⊢
  by_cases hc : (opF w 0).op = 9 ∧ opF w 0 = opF w 1 ∧ (opF w 2).op = 31
  case neg => rw [if_neg hc] at hf; exact absurd rfl hf
  rw [if_pos hc] at hf ⊢
  obtain ⟨m, c, b1, b2, b3, b4⟩ := bumpGo_ok 16 hf
  rw [b1]
  obtain ⟨c0, c1, c2⟩ := hc
  have hh0 : harmF 0 = false := by simp [harmF, binF, isOp]
  obtain ⟨hm0, e0, _⟩ := opF_get (w := w) (n := 0) (by rw [c0]; omega)
  obtain ⟨hm1, e1, _⟩ := opF_get (w := w) (n := 1) (by rw [← c1, c0]; omega)
  obtain ⟨hm2, e2, _⟩ := opF_get (w := w) (n := 2) (by rw [c2]; omega)
  obtain ⟨hm4, e4, _⟩ := opF_get (w := w) (n := m + 4) (by intro e; rw [e, hh0] at b3; cases b3)
  obtain ⟨hm5, e5, _⟩ := opF_get (w := w) (n := m + 5) (by rw [b4]; omega)
  have hw1 : w[1] = w[0] := by rw [e1, e0, c1]
  rw [← e0] at c0 ⊢
  rw [← e2] at c2
  rw [← e4] at b3 ⊢
  rw [← e5] at b4
  have ht1 : w.take 1 = [w[0]] := by rw [take_split hm0]; rfl
  have ht2 : w.take 2 = [w[0]] ++ [w[0]] := by rw [take_split hm1, ht1, hw1]
  have ht3 : w.take 3 = ([w[0]] ++ [w[0]]) ++ [w[2]] := by rw [take_split hm2, ht2]
  have ht4 : w.take (m + 4) = w.take 3 ++ (w.drop 3).take (m + 1) := by rw [show m + 4 = 3 + (m + 1) by omega, List.take_add]
  have ht5 : w.take (m + 5) = w.take (m + 4) ++ [w[m + 4]] := take_split hm4
  have ht6 : w.take (m + 6) = w.take (m + 5) ++ [w[m + 5]] := take_split hm5
  generalize w[0] = i0 at *
  generalize w[2] = i2 at *
  generalize w[m + 4] = i4 at *
  generalize w[m + 5] = i5 at *
  have s0 := tk_local c0 hI
  rw [incW_eq (by omega)] at s0
  have s1 := tk_local c0 s0
  rw [incW_eq (by omega)] at s1
  have s2 := tk_load (i := i2) (by omega) s1
  rw [incW_eq (by omega)] at s2
  have hsz : sizeF i2.op = 4 := by unfold sizeF; rw [if_neg (by omega), if_neg (by omega)]
  have hsz5 : sizeF i5.op = 4 := by unfold sizeF; rw [if_neg (by omega), if_neg (by omega)]
  rw [hsz] at s2
  have hrun3 : runs S (w.take 3) = takeS (takeS (takeS S i0) i0) i2 := by rw [ht3]; rfl
  rw [← hrun3] at s2
  obtain ⟨_, _, f3, s3⟩ := const_run (N := base.length + 70) b2 s2 (by omega) (by simp)
  have hb : binF i4.op = true := by simp only [harmF, Bool.and_eq_true] at b3; exact b3.1
  obtain ⟨r1, r2, r3, r4⟩ := binF_rng hb
  rw [← runs_append, ← ht4] at s3
  have s4 := tk_binary r1 r2 r3 r4 s3
  have hz : binE i4.op c = 0 := harmF_rng b3
  rw [hz, incW_eq (by omega)] at s4
  simp only [decide_true, Bool.not_true] at s4
  have hrun5 : runs S (w.take (m + 5)) = takeS (runs S (w.take (m + 4))) i4 := by rw [ht5, runs_append]; rfl
  rw [← hrun5] at s4
  have s5 := tk_store (i := i5) hD (by omega) s4
  rw [hsz5, incW_eq (by omega)] at s5
  have hrun6 : runs S (w.take (m + 6)) = takeS (runs S (w.take (m + 5))) i5 := by rw [ht6, runs_append]; rfl
  rw [← hrun6] at s5
  have hpc : addW pc (m + 6) = pc + (m + 6) := addW_eq (by omega)
  have hL3 : (w.take 3).length = 3 := by rw [List.length_take]; omega
  have hL4 : (w.take (m + 4)).length = m + 4 := by rw [List.length_take]; omega
  have hL5 : (w.take (m + 5)).length = m + 5 := by rw [List.length_take]; omega
  refine ⟨?_, fun _ => ?_, fun hk8 => by omega⟩
  · show Fine S (w.take (m + 6)) D pc _
    have q3 : Fine S (w.take 3) D pc (base.length + 70) := by
      rw [ht3]
      exact fine_append (fine_append (fine_one _ hI (by omega)) (fine_one (sp := sp) (ops := base ++ [addW sp i0.arg]) _ s0 (by simp))) (fine_one (sp := sp) (ops := base ++ [addW sp i0.arg] ++ [addW sp i0.arg]) _ s1 (by simp))
    have q4 : Fine S (w.take (m + 4)) D pc (base.length + 70) := by
      rw [ht4]
      refine fine_append q3 ?_
      rw [hL3]; exact f3
    have q5 : Fine S (w.take (m + 5)) D pc (base.length + 70) := by
      rw [ht5]
      refine fine_append q4 ?_
      rw [hL4]
      refine fine_one (sp := sp) (ops := base ++ [addW sp i0.arg] ++ [loadW D (addW sp i0.arg) 4] ++ [c]) _ ?_ (by simp)
      have := s3
      rwa [show pc + 1 + 1 + 1 + (m + 1) = pc + (m + 4) by omega] at this
    rw [ht6]
    refine fine_append q5 ?_
    rw [hL5]
    refine fine_one (sp := sp) (ops := base ++ [addW sp i0.arg] ++ [binW i4.op (loadW D (addW sp i0.arg) 4) c]) _ ?_ (by simp)
    have := s4
    rwa [show pc + 1 + 1 + 1 + (m + 1) + 1 = pc + (m + 5) by omega] at this
  · show Alike (runs S (w.take (m + 6))) _
    refine ⟨_, _, _, _, _, s5, ?_⟩
    show Is (((S.withPc (addW pc (m + 6))).withBad ((S.withPc (addW pc (m + 6))).bad || !decide (binE i4.op c = 0))).store (addW (S.withPc (addW pc (m + 6))).sp i0.arg) (binW i4.op (loadW (S.withPc (addW pc (m + 6))).data (addW (S.withPc (addW pc (m + 6))).sp i0.arg) 4) c) 4) _ _ _ _ _
    rw [show (S.withPc (addW pc (m + 6))).bad = false from hI.bad, show (S.withPc (addW pc (m + 6))).sp = sp from hI.sp, show (S.withPc (addW pc (m + 6))).data = D from hI.data, hz, hpc]
    have hp := (hI.pcs (pc + (m + 6))).bads (false || !decide (0 = 0))
    have := hp.stores (addW sp i0.arg) (binW i4.op (loadW D (addW sp i0.arg) 4) c) 4 hD
    rw [show pc + 1 + 1 + 1 + (m + 1) + 1 + 1 = pc + (m + 6) by omega]
    simpa using this
theorem means {w : List Instr} {k : Nat} {f : Shp} (h : longF w = .ok (k, f)) (hk : k ≠ 1) (hD : D.length = 256) (hI : Is S sp (o ++ [a]) D pc false) (hlen : pc + w.length < 4294967296) : Good S w sp (o ++ [a]) D pc k f := by
  obtain ⟨k1, k2, k3, k4⟩ := longF_from h
  dsimp only at k1 k2 k3 k4
  have hl : (fitsF w k).len ≠ 0 := by
    rcases k4 with e | e
    · exact absurd e hk
    · rw [← k3]; omega
  rw [k3]
  have hb0 : binF 0 = false := by simp [binF, isOp]
  have hkk : k = 2 ∨ k = 3 ∨ k = 4 ∨ k = 5 ∨ k = 6 ∨ k = 7 ∨ k = 8 ∨ k = 9 ∨ k = 10 ∨ k = 11 ∨ k = 12 ∨ k = 13 ∨ k = 14 ∨ k = 15 := by omega
  rcases hkk with rfl | rfl | rfl | rfl | rfl | rfl | rfl | rfl | rfl | rfl | rfl | rfl | rfl | rfl
  · exact good_folded (.inl rfl) hl hI hlen
  · exact good_folded (.inr (.inl rfl)) hl hI hlen
  · exact good_folded (.inr (.inr rfl)) hl hI hlen
  · exact good_behind hb0 (.inl ⟨rfl, rfl, rfl⟩) hl hD hI hlen
  · exact good_behind rfl (.inr (.inl ⟨rfl, rfl, rfl, rfl⟩)) hl hD hI hlen
  · exact good_behind rfl (.inr (.inr (.inl ⟨rfl, rfl, rfl⟩))) hl hD hI hlen
  · exact good_behind rfl (.inr (.inr (.inr (.inl ⟨rfl, rfl⟩)))) hl hD hI hlen
  · exact good_behind rfl (.inr (.inr (.inr (.inr (.inl ⟨rfl, rfl, rfl⟩))))) hl hD hI hlen
  · exact good_behind rfl (.inr (.inr (.inr (.inr (.inr ⟨rfl, rfl, rfl⟩))))) hl hD hI hlen
  · exact good_local1 rfl (.inl ⟨rfl, rfl, rfl⟩) hl hD hI hlen
  · exact good_local1 rfl (.inr ⟨rfl, rfl, rfl⟩) hl hD hI hlen
  · exact good_local2 hb0 (.inl ⟨rfl, rfl, rfl⟩) hl hD hI hlen
  · exact good_local2 rfl (.inr ⟨rfl, rfl, rfl, rfl⟩) hl hD hI hlen
  · exact good_bump hl hD hI hlen
end
end Go.Proofs.Ytjmipgfaghjgmaa
end
