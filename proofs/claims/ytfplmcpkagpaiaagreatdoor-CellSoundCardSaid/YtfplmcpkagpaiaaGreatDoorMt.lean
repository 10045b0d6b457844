/-
 Sets of numbers as lists of words: plain laws.
 The numbers of a set, rising: plain.
-/
import Derived.Test.YtfplmcpkagpaiaaGreatDoorMe
set_option linter.unusedSimpArgs false
set_option linter.unusedVariables false
section
namespace Go.Sim.Cell
def wordN (p : Nat → Bool) (w : Nat) : Nat → Nat
 | 0 => 0
 | n + 1 => wordN p w n + if p (64 * w + n) then 2 ^ n else 0
theorem wordN_lt (p : Nat → Bool) (w : Nat) : ∀ n, wordN p w n < 2 ^ n
 | 0 => by simp [wordN]
 | n + 1 => by
  have := wordN_lt p w n
  simp only [wordN]
  split <;> omega
theorem testBit_wordN (p : Nat → Bool) (w b : Nat) : ∀ n, (wordN p w n).testBit b = (decide (b < n) && p (64 * w + b))
 | 0 => by simp [wordN]
 | n + 1 => by
  have ih := testBit_wordN p w b n
  have hlt := wordN_lt p w n
  simp only [wordN]
  by_cases hp : p (64 * w + n)
  ·rw [if_pos hp, Nat.add_comm]
   rcases Nat.lt_trichotomy b n with h | h | h
   ·rw [Nat.testBit_two_pow_add_gt h, ih, decide_eq_true h, decide_eq_true (by omega : b < n + 1)]
   ·subst h
    rw [Nat.testBit_two_pow_add_eq, ih, hp]
    simp
   ·rw [decide_eq_false (by omega : ¬ b < n + 1), Bool.false_and]
    exact Nat.testBit_lt_two_pow (Nat.lt_of_lt_of_le (show 2 ^ n + wordN p w n < 2 ^ (n + 1) by omega) (Nat.pow_le_pow_right (by omega) h))
  ·rw [if_neg hp, Nat.add_zero, ih]
   rcases Nat.lt_trichotomy b n with h | h | h
   ·rw [decide_eq_true h, decide_eq_true (by omega : b < n + 1)]
   ·subst h; simp [hp]
   ·rw [decide_eq_false (by omega), decide_eq_false (by omega)]
abbrev word (p : Nat → Bool) (w : Nat) : Nat := wordN p w 64
theorem word_lt (p : Nat → Bool) (w : Nat) : word p w < 18446744073709551616 := wordN_lt p w 64
theorem word_congr {p q : Nat → Bool} {w : Nat} (h : ∀ b, b < 64 → p (64 * w + b) = q (64 * w + b)) : word p w = word q w := by
 apply Nat.eq_of_testBit_eq
 intro b
 rw [testBit_wordN, testBit_wordN]
 by_cases hb : b < 64
 ·rw [h b hb]
 ·rw [decide_eq_false hb, Bool.false_and, Bool.false_and]
def setW (p : Nat → Bool) (m : Nat) : List Nat := (List.range m).map (word p)
@[simp] theorem setW_len (p : Nat → Bool) (m : Nat) : (setW p m).length = m := by simp [setW]
theorem setW_get (p : Nat → Bool) (m w : Nat) (h : w < m) : (setW p m)[w]'(by simp; exact h) = word p w := by simp [setW]
theorem setW_set {p q : Nat → Bool} {m w v : Nat} (hv : v = word q w) (h : ∀ i, i / 64 ≠ w → p i = q i) : (setW p m).set w v = setW q m := by
 subst hv
 apply List.ext_getElem
 ·simp
 ·intro i h1 h2
  simp at h1
  rw [List.getElem_set, setW_get q m i h1]
  by_cases hi : w = i
  ·rw [if_pos hi, hi]
  ·rw [if_neg hi, setW_get p m i h1]
   exact word_congr fun b hb => h _ (by omega)
theorem setW_none (m : Nat) : setW (fun _ => false) m = List.replicate m 0 := by
 apply List.ext_getElem
 ·simp
 ·intro i h1 h2
  simp at h1
  rw [setW_get _ m i h1, List.getElem_replicate]
  apply Nat.eq_of_testBit_eq
  intro b
  rw [testBit_wordN]; simp
def put (p : Nat → Bool) (x : Nat) : Nat → Bool := fun i => p i || decide (i = x)
def drop (p : Nat → Bool) (x : Nat) : Nat → Bool := fun i => p i && decide (i ≠ x)
theorem word_put (p : Nat → Bool) (x : Nat) : word p (x / 64) ||| 2 ^ (x % 64) = word (put p x) (x / 64) := by
 apply Nat.eq_of_testBit_eq
 intro b
 rw [Nat.testBit_or, testBit_wordN, testBit_wordN, Nat.testBit_two_pow]
 unfold put
 by_cases hb : b < 64
 ·rw [decide_eq_true hb, Bool.true_and, Bool.true_and]
  congr 1
  exact decide_eq_decide.2 ⟨fun h => by omega, fun h => by omega⟩
 ·rw [decide_eq_false hb, Bool.false_and, Bool.false_and, Bool.false_or]
  exact decide_eq_false (by omega)
theorem word_and (p : Nat → Bool) (x : Nat) : word p (x / 64) &&& 2 ^ (x % 64) = if p x then 2 ^ (x % 64) else 0 := by
 apply Nat.eq_of_testBit_eq
 intro b
 rw [Nat.testBit_and, testBit_wordN, Nat.testBit_two_pow]
 by_cases hb : x % 64 = b
 ·subst hb
  rw [decide_eq_true (Nat.mod_lt _ (by omega)), show 64 * (x / 64) + x % 64 = x from Nat.div_add_mod x 64]
  by_cases hp : p x
  ·rw [if_pos hp, hp, Nat.testBit_two_pow]
   simp
  ·rw [if_neg hp]
   simp [hp]
 ·rw [decide_eq_false hb, Bool.and_false]
  by_cases hp : p x
  ·rw [if_pos hp, Nat.testBit_two_pow, decide_eq_false hb]
  ·rw [if_neg hp, Nat.zero_testBit]
theorem ofInt_nat {a : Nat} (h : a < 18446744073709551616) : (BitVec.ofInt 64 (a : Int)).toNat = a := by
 rw [BitVec.toNat_ofInt]
 omega
theorem andI_nat {a b : Nat} (ha : a < 18446744073709551616) (hb : b < 18446744073709551616) : Go.Sim.andI 64 (a : Int) (b : Int) = ((a &&& b : Nat) : Int) := by
 unfold Go.Sim.andI
 rw [BitVec.toNat_and, ofInt_nat ha, ofInt_nat hb]
theorem orI_nat {a b : Nat} (ha : a < 18446744073709551616) (hb : b < 18446744073709551616) : Go.Sim.orI 64 (a : Int) (b : Int) = ((a ||| b : Nat) : Int) := by
 unfold Go.Sim.orI
 rw [BitVec.toNat_or, ofInt_nat ha, ofInt_nat hb]
theorem pow64_lt (x : Nat) : 2 ^ (x % 64) < 18446744073709551616 := Nat.lt_of_le_of_lt (Nat.pow_le_pow_right (by omega) (show x % 64 ≤ 63 by omega)) (by decide)
theorem and_bit (p : Nat → Bool) (x : Nat) : Go.Sim.andI 64 (word p (x / 64) : Nat) ((2 ^ (x % 64) : Nat) : Int) = if p x then ((2 ^ (x % 64) : Nat) : Int) else 0 := by
 rw [andI_nat (word_lt _ _) (pow64_lt x), word_and]
 split <;> simp
theorem or_bit (p : Nat → Bool) (x : Nat) : Go.Sim.orI 64 (word p (x / 64) : Nat) ((2 ^ (x % 64) : Nat) : Int) = (word (put p x) (x / 64) : Nat) := by
 rw [orI_nat (word_lt _ _) (pow64_lt x), word_put]
theorem andNot_bit (p : Nat → Bool) (x : Nat) : Go.Sim.andNotI 64 (word p (x / 64) : Nat) ((2 ^ (x % 64) : Nat) : Int) = (word (drop p x) (x / 64) : Nat) := by
 unfold Go.Sim.andNotI
 congr 1
 apply Nat.eq_of_testBit_eq
 intro b
 rw [testBit_wordN]
 show (BitVec.getLsbD _ b) = _
 rw [BitVec.getLsbD_and, BitVec.getLsbD_not]
 show ((BitVec.toNat _).testBit b && (decide (b < 64) && !(BitVec.toNat _).testBit b)) = _
 rw [ofInt_nat (word_lt _ _), ofInt_nat (pow64_lt x), testBit_wordN, Nat.testBit_two_pow]
 unfold drop
 by_cases hb : b < 64
 ·rw [decide_eq_true hb, Bool.true_and, Bool.true_and, Bool.true_and]
  congr 1
  by_cases h : x % 64 = b
  ·rw [decide_eq_true h, decide_eq_false (by omega)]; rfl
  ·rw [decide_eq_false h, decide_eq_true (by omega)]; rfl
 ·rw [decide_eq_false hb]; simp
end Go.Sim.Cell
end
section
namespace Go.Sim.Cell
open Go.Sim.Kr
theorem and_pred_lt {w : Nat} (h : w ≠ 0) : w &&& (w - 1) < w := by
 have : w &&& (w - 1) ≤ w - 1 := Nat.and_le_right
 omega
def bitsL (w : Nat) : List Nat := if h : w = 0 then [] else Tz.tz w :: bitsL (w &&& (w - 1))
termination_by w
decreasing_by exact and_pred_lt h
theorem bitsL_zero : bitsL 0 = [] := by rw [bitsL, dif_pos rfl]
theorem bitsL_pos {w : Nat} (h : w ≠ 0) : bitsL w = Tz.tz w :: bitsL (w &&& (w - 1)) := by
 conv => lhs; rw [bitsL]
 rw [dif_neg h]
theorem bitsL_mem (j : Nat) : ∀ w, w < 2 ^ 64 → (j ∈ bitsL w ↔ w.testBit j = true) := by
 intro w
 induction w using Nat.strongRecOn with
 | _ w ih =>
  intro hw
  by_cases h : w = 0
  ·subst h; simp [bitsL_zero]
  ·have hl := and_pred_lt h
   rw [bitsL_pos h, List.mem_cons, ih _ hl (by omega), Tz.and_less h hw]
   have hb := (Tz.tz_spec h hw).2.1
   by_cases hj : j = Tz.tz w
   ·subst hj; simp [hb]
   ·simp [hj]
theorem bitsL_low {w j : Nat} (h : w ≠ 0) (hw : w < 2 ^ 64) (hj : j ∈ bitsL (w &&& (w - 1))) : Tz.tz w < j := by
 have hl := and_pred_lt h
 rw [bitsL_mem j _ (by omega), Tz.and_less h hw] at hj
 simp only [Bool.and_eq_true, decide_eq_true_eq] at hj
 rcases Nat.lt_trichotomy (Tz.tz w) j with h1 | h1 | h1
 ·exact h1
 ·exact absurd h1.symm hj.2
 ·have := (Tz.tz_spec h hw).2.2 j h1
  rw [this] at hj; exact absurd hj.1 (by simp)
theorem bitsL_rising : ∀ w, w < 2 ^ 64 → (bitsL w).Pairwise (· < ·) := by
 intro w
 induction w using Nat.strongRecOn with
 | _ w ih =>
  intro hw
  by_cases h : w = 0
  ·subst h; rw [bitsL_zero]; exact List.Pairwise.nil
  ·have hl := and_pred_lt h
   rw [bitsL_pos h]
   exact List.Pairwise.cons (fun j hj => bitsL_low h hw hj) (ih _ hl (by omega))
theorem bitsL_lt {w j : Nat} (hw : w < 2 ^ 64) (hj : j ∈ bitsL w) : j < 64 := by
 rw [bitsL_mem j w hw] at hj
 rcases Nat.lt_or_ge j 64 with h | h
 ·exact h
 ·rw [Nat.testBit_lt_two_pow (Nat.lt_of_lt_of_le hw (Nat.pow_le_pow_right (by omega) h))] at hj
  cases hj
def listW : Nat → List Nat → List Nat
 | _, [] => []
 | i, w :: r => (bitsL w).map (fun b => 64 * i + b) ++ listW (i + 1) r
theorem listW_mem (x : Nat) : ∀ (l : List Nat) (i : Nat), (∀ w ∈ l, w < 2 ^ 64) → (x ∈ listW i l ↔ ∃ k, ∃ h : k < l.length, x / 64 = i + k ∧ (l[k]).testBit (x % 64) = true)
 | [], i, _ => by simp [listW]
 | w :: r, i, h => by
  rw [listW, List.mem_append, listW_mem x r (i + 1) (fun w hw => h w (by simp [hw])), List.mem_map]
  have hw := h w (by simp)
  constructor
  ·rintro (⟨b, hb, rfl⟩ | ⟨k, hk, h1, h2⟩)
   ·have h64 := bitsL_lt hw hb
    refine ⟨0, by simp, by omega, ?_⟩
    rw [show (64 * i + b) % 64 = b by omega]
    exact (bitsL_mem b w hw).1 hb
   ·exact ⟨k + 1, by simp; omega, by omega, by simpa using h2⟩
  ·rintro ⟨k, hk, h1, h2⟩
   cases k with
   | zero =>
    left
    exact ⟨x % 64, (bitsL_mem _ w hw).2 (by simpa using h2), by omega⟩
   | succ k => right; exact ⟨k, by simpa using hk, by omega, by simpa using h2⟩
theorem listW_ge {x : Nat} : ∀ {l : List Nat} {i : Nat}, (∀ w ∈ l, w < 2 ^ 64) → x ∈ listW i l → 64 * i ≤ x := by
 intro l i h hx
 obtain ⟨k, hk, h1, h2⟩ := (listW_mem x l i h).1 hx
 omega
theorem listW_rising : ∀ (l : List Nat) (i : Nat), (∀ w ∈ l, w < 2 ^ 64) → (listW i l).Pairwise (· < ·)
 | [], i, _ => List.Pairwise.nil
 | w :: r, i, h => by
  rw [listW, List.pairwise_append]
  have hw := h w (by simp)
  have hr : ∀ w ∈ r, w < 2 ^ 64 := fun w hw => h w (by simp [hw])
  refine ⟨?_, listW_rising r (i + 1) hr, ?_⟩
  ·rw [List.pairwise_map]
   exact (bitsL_rising w hw).imp fun h => by omega
  ·intro a ha b hb
   obtain ⟨c, hc, rfl⟩ := List.mem_map.1 ha
   have h1 := listW_ge hr hb
   have h2 := bitsL_lt hw hc
   omega
def numsF (p : Nat → Bool) (m : Nat) : List Nat := listW 0 (setW p m)
theorem setW_small (p : Nat → Bool) (m : Nat) : ∀ w ∈ setW p m, w < 2 ^ 64 := by
 intro w hw
 obtain ⟨i, _, rfl⟩ := List.mem_map.1 hw
 exact word_lt p i
theorem numsF_mem (p : Nat → Bool) (m x : Nat) : x ∈ numsF p m ↔ x < 64 * m ∧ p x = true := by
 rw [numsF, listW_mem x _ 0 (setW_small p m)]
 constructor
 ·rintro ⟨k, hk, h1, h2⟩
  simp at hk
  rw [setW_get p m k hk, testBit_wordN] at h2
  simp only [Bool.and_eq_true, decide_eq_true_eq] at h2
  rw [show 64 * k + x % 64 = x by omega] at h2
  exact ⟨by omega, h2.2⟩
 ·rintro ⟨h1, h2⟩
  refine ⟨x / 64, by simp; omega, by omega, ?_⟩
  rw [setW_get p m _ (by omega), testBit_wordN, show 64 * (x / 64) + x % 64 = x by omega, h2, decide_eq_true (by omega)]
  rfl
theorem numsF_rising (p : Nat → Bool) (m : Nat) : (numsF p m).Pairwise (· < ·) := listW_rising _ _ (setW_small p m)
theorem rising_len : ∀ (l : List Nat) (a n : Nat), l.Pairwise (· < ·) → (∀ x ∈ l, a ≤ x ∧ x < n) → l = [] ∨ l.length + a ≤ n
 | [], a, n, _, _ => .inl rfl
 | x :: r, a, n, h, hb => by
  rw [List.pairwise_cons] at h
  have hx := hb x (by simp)
  rcases rising_len r (x + 1) n h.2 (fun y hy => ⟨h.1 y hy, (hb y (by simp [hy])).2⟩) with h1 | h1
  ·subst h1; right; simp; omega
  ·right; simp; omega
theorem numsF_len (p : Nat → Bool) (m : Nat) : (numsF p m).length ≤ 64 * m := by
 rcases rising_len (numsF p m) 0 (64 * m) (numsF_rising p m) (fun x hx => ⟨Nat.zero_le _, ((numsF_mem p m x).1 hx).1⟩) with h | h
 ·rw [h]; simp
 ·omega
end Go.Sim.Cell
end
