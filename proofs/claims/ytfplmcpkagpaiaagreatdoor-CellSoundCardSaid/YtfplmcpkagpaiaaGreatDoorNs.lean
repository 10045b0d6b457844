/-
 The operations of package single on floats: what each gives, as a plain function of the words.
 The operations of package single, as the machine of values takes them for known.
 What the operations of package alu give, as plain functions of the words.
-/
import Derived.Test.YtfplmcpkagpaiaaGreatDoorProg
import Derived.WalkKit
import Derived.ProofKit
import Derived.Laws.FloatArith
import Derived.Laws.Cover2
import Derived.Laws.Externs
import Derived.Laws.NewFold
import Derived.KernelRfl
import Derived.Test.YtfplmcpkagpaiaaGreatDoorMe
set_option maxRecDepth 100000
set_option linter.unusedSimpArgs false
set_option linter.unusedVariables false
section
namespace Go.Proofs.YtfplmcpkagpaiaaGreatDoor
open Go
abbrev ordF (x y : Nat) : Option Ordering := FloatKind.f32.format.order x y
def wordF (x : Nat) : Int := if (ordF x x != some .eq) = true then 2143289344 else x
def arithF (op : BinOp) (a b : Nat) : Int := match floatBits op .f32 a b with | some r => wordF r | none => 2143289344
def standF (a b : Nat) : Int := if (ordF a b == some .lt) = true then 2 else if (ordF a b == some .gt) = true then 4 else if (ordF a b == some .eq) = true then 3 else 1
def ofF (n : Int) : Int := wordF (floatOfInt .f32 n)
def towardF (a : Nat) : Int := if (ordF a a != some .eq) = true then 0 else if (ordF a 1325400064 == some .gt || ordF a 1325400064 == some .eq) = true then 2147483647 else if (ordF a 3472883712 == some .lt) = true then -2147483648 else (floatToIntVal .f32 a .i32).getD 0
theorem nan_rung (t : Nat) : ∃ u, (t % 2 * 2147483648 + 2139095040 + 1 + t / 2 % 8388607) % 2147483648 = 2139095041 + u := by
 refine ⟨t / 2 % 8388607, ?_⟩
 have h1 : t / 2 % 8388607 < 8388607 := Nat.mod_lt _ (by omega)
 generalize t / 2 % 8388607 = u at *
 obtain h | h : t % 2 = 0 ∨ t % 2 = 1 := by omega
 ·rw [h]; omega
 ·rw [h]; omega
theorem f32_sign : FloatKind.f32.format.signWeight = 2147483648 := by decide +kernel
theorem f32_binade : FloatKind.f32.format.binade = 8388608 := by decide +kernel
theorem f32_inf : FloatKind.f32.format.infRung = 2139095040 := by decide +kernel
theorem read_nan {x r u : Nat} (h : x % 2147483648 = r) (hr : r = 2139095041 + u) : ∃ b n, FloatKind.f32.format.read x = .nan b n := by
 unfold Ieee.Format.read
 rw [f32_sign, f32_binade, f32_inf, h]
 generalize hA : (8388608 : Nat) = A
 generalize hB : (2139095040 : Nat) = B
 have h1 : ¬ r < A := by omega
 have h2 : ¬ r < B := by omega
 have h3 : ¬ r = B := by omega
 simp only [if_neg h1, if_neg h2, if_neg h3]
 exact ⟨_, _, rfl⟩
theorem cut_nan (x y t : Nat) : Question.cut (.nanBits .f32 x y) t = t % 2 * 2147483648 + 2139095040 + 1 + t / 2 % 8388607 := by
 unfold Question.cut
 dsimp only
theorem ord_nan (x y t : Nat) : (FloatKind.f32.format.order (Question.cut (.nanBits .f32 x y) t) (Question.cut (.nanBits .f32 x y) t) != some .eq) = true := by
 obtain ⟨u, hu⟩ := nan_rung t
 rw [← cut_nan x y t] at hu
 generalize Question.cut (.nanBits .f32 x y) t = c at *
 obtain ⟨b, n, h⟩ := read_nan (u := u) hu (Eq.refl _)
 have : FloatKind.f32.format.order c c = none := by
  unfold Ieee.Format.order
  rw [h]
  rfl
 rw [this]
 rfl
theorem cut_zero_le (s : Bool) (n d : Nat) : Ieee.Toward.cut .zero s n d ≤ n / 2 ^ d := by
 simp only [Ieee.Toward.cut, Bool.toNat_false, Nat.add_zero, Nat.one_shiftLeft]
 rcases Nat.le_total d (n.log2 + 2) with h | h
 ·rw [Nat.min_eq_left h]; exact Nat.le_refl _
 ·rw [Nat.min_eq_right h, Nat.div_eq_of_lt]
  ·exact Nat.zero_le _
  ·calc n < 2 ^ (n.log2 + 1) := Nat.lt_log2_self
    _ ≤ 2 ^ (n.log2 + 2) := Nat.pow_le_pow_right (by omega) (by omega)
theorem cmp_lt {x y : Int} (h1 : ((some (compare x y) : Option Ordering) == some .gt || (some (compare x y) : Option Ordering) == some .eq) = false) : x < y := by
 simp only [Bool.or_eq_false_iff] at h1
 rcases Int.lt_trichotomy x y with h | h | h
 ·exact h
 ·subst h; simp at h1
 ·have : compare x y = .gt := Int.compare_eq_gt.2 h
  simp [this] at h1
theorem cmp_ge {x y : Int} (h1 : ((some (compare x y) : Option Ordering) == some .lt) = false) : y ≤ x := by
 by_cases h : x < y
 ·have : compare x y = .lt := Int.compare_eq_lt.2 h
  simp [this] at h1
 ·omega
theorem whole_lt {m : Nat} {i : Int} {B : Nat} (h : m * 2 ^ (i - min i 8).toNat ≤ B * 2 ^ (8 - min i 8).toNat) : m * 2 ^ i.toNat / 2 ^ (-i).toNat ≤ B * 256 := by
 by_cases h8 : 8 ≤ i
 ·obtain ⟨k, rfl⟩ : ∃ k : Nat, i = 8 + k := ⟨(i - 8).toNat, by omega⟩
  have e1 : ((8 : Int) + k - min (8 + (k : Int)) 8).toNat = k := by omega
  have e2 : ((8 : Int) - min (8 + (k : Int)) 8).toNat = 0 := by omega
  have e3 : ((8 : Int) + k).toNat = 8 + k := by omega
  have e4 : (-((8 : Int) + k)).toNat = 0 := by omega
  rw [e1, e2, Nat.pow_zero, Nat.mul_one] at h
  rw [e3, e4, Nat.pow_zero, Nat.div_one, Nat.pow_add, Nat.mul_left_comm]
  omega
 ·by_cases h0 : 0 ≤ i
  ·obtain ⟨k, rfl⟩ : ∃ k : Nat, i = k := ⟨i.toNat, by omega⟩
   have e1 : ((k : Int) - min (k : Int) 8).toNat = 0 := by omega
   have e2 : ((8 : Int) - min (k : Int) 8).toNat = 8 - k := by omega
   have e4 : (-(k : Int)).toNat = 0 := by omega
   rw [e1, e2, Nat.pow_zero, Nat.mul_one] at h
   rw [e4, Nat.pow_zero, Nat.div_one, Int.toNat_natCast]
   calc m * 2 ^ k ≤ B * 2 ^ (8 - k) * 2 ^ k := Nat.mul_le_mul_right _ h
    _ = B * 256 := by rw [Nat.mul_assoc, ← Nat.pow_add, show 8 - k + k = 8 by omega]
  ·obtain ⟨k, rfl⟩ : ∃ k : Nat, i = -(k : Int) := ⟨(-i).toNat, by omega⟩
   have e1 : (-(k : Int) - min (-(k : Int)) 8).toNat = 0 := by omega
   have e2 : ((8 : Int) - min (-(k : Int)) 8).toNat = 8 + k := by omega
   have e3 : (-(k : Int)).toNat = 0 := by omega
   have e4 : (- -(k : Int)).toNat = k := by omega
   rw [e1, e2, Nat.pow_zero, Nat.mul_one, Nat.pow_add, ← Nat.mul_assoc] at h
   rw [e3, e4, Nat.pow_zero, Nat.mul_one]
   exact Nat.div_le_of_le_mul (by rw [Nat.mul_comm]; exact h)
theorem whole_lt' {m : Nat} {i : Int} {B : Nat} (h : m * 2 ^ (i - min i 8).toNat < B * 2 ^ (8 - min i 8).toNat) : m * 2 ^ i.toNat / 2 ^ (-i).toNat < B * 256 := by
 by_cases h8 : 8 ≤ i
 ·obtain ⟨k, rfl⟩ : ∃ k : Nat, i = 8 + k := ⟨(i - 8).toNat, by omega⟩
  have e1 : ((8 : Int) + k - min (8 + (k : Int)) 8).toNat = k := by omega
  have e2 : ((8 : Int) - min (8 + (k : Int)) 8).toNat = 0 := by omega
  have e3 : ((8 : Int) + k).toNat = 8 + k := by omega
  have e4 : (-((8 : Int) + k)).toNat = 0 := by omega
  rw [e1, e2, Nat.pow_zero, Nat.mul_one] at h
  rw [e3, e4, Nat.pow_zero, Nat.div_one, Nat.pow_add, Nat.mul_left_comm]
  omega
 ·by_cases h0 : 0 ≤ i
  ·obtain ⟨k, rfl⟩ : ∃ k : Nat, i = k := ⟨i.toNat, by omega⟩
   have e1 : ((k : Int) - min (k : Int) 8).toNat = 0 := by omega
   have e2 : ((8 : Int) - min (k : Int) 8).toNat = 8 - k := by omega
   have e4 : (-(k : Int)).toNat = 0 := by omega
   rw [e1, e2, Nat.pow_zero, Nat.mul_one] at h
   rw [e4, Nat.pow_zero, Nat.div_one, Int.toNat_natCast]
   calc m * 2 ^ k < B * 2 ^ (8 - k) * 2 ^ k := Nat.mul_lt_mul_of_pos_right h (Nat.two_pow_pos k)
    _ = B * 256 := by rw [Nat.mul_assoc, ← Nat.pow_add, show 8 - k + k = 8 by omega]
  ·obtain ⟨k, rfl⟩ : ∃ k : Nat, i = -(k : Int) := ⟨(-i).toNat, by omega⟩
   have e1 : (-(k : Int) - min (-(k : Int)) 8).toNat = 0 := by omega
   have e2 : ((8 : Int) - min (-(k : Int)) 8).toNat = 8 + k := by omega
   have e3 : (-(k : Int)).toNat = 0 := by omega
   have e4 : (- -(k : Int)).toNat = k := by omega
   rw [e1, e2, Nat.pow_zero, Nat.mul_one, Nat.pow_add, ← Nat.mul_assoc] at h
   rw [e3, e4, Nat.pow_zero, Nat.mul_one]
   exact Nat.div_lt_of_lt_mul (by rw [Nat.mul_comm]; exact h)
theorem read_top : FloatKind.f32.format.read 1325400064 = .number false 8388608 8 := by decide +kernel
theorem read_low : FloatKind.f32.format.read 3472883712 = .number true 8388608 8 := by decide +kernel
theorem toward_some (a : Nat) (h1 : (ordF a a != some .eq) = false) (h2 : (ordF a 1325400064 == some .gt || ordF a 1325400064 == some .eq) = false) (h3 : (ordF a 3472883712 == some .lt) = false) : ∃ n, floatToIntVal .f32 a .i32 = some n := by
 unfold ordF Ieee.Format.order at h1 h2 h3
 rw [read_top] at h2
 rw [read_low] at h3
 unfold floatToIntVal FloatKind.decode
 generalize FloatKind.f32.format.read a = d at *
 cases d with
 | nan b n => simp [Ieee.Datum.order] at h1
 | infinity s => cases s <;> simp [Ieee.Datum.order] at h2 h3
 | number s m i =>
  simp only [Ieee.Datum.order] at h2 h3
  have g2 := cmp_lt h2
  have g3 := cmp_ge h3
  clear h1 h2 h3
  simp only [Ieee.Datum.toInt, Ieee.Datum.integral, Ieee.signed, Nat.shiftLeft_eq, if_true, Bool.false_eq_true, if_false] at g2 g3 ⊢
  have hc := cut_zero_le s (m * 2 ^ i.toNat) (-i).toNat
  have hmin : IntKind.i32.min = -2147483648 := rfl
  have hmax : IntKind.i32.max = 2147483647 := rfl
  cases s
  ·simp only [Bool.false_eq_true, if_false] at g2 g3 ⊢
   have := whole_lt' (m := m) (i := i) (B := 8388608) (by omega)
   rw [if_pos (by rw [hmin, hmax]; omega)]
   exact ⟨_, rfl⟩
  ·simp only [if_true] at g2 g3 ⊢
   have := whole_lt (m := m) (i := i) (B := 8388608) (by omega)
   rw [if_pos (by rw [hmin, hmax]; omega)]
   exact ⟨_, rfl⟩
theorem run_frombits (x : Nat) (w : World) : (callFunc 148 #[.int .u32 x]).run Tryz.prog w = .ok (.value (.float .f32 x)) w := by
 rw [run_callFunc_extern Tryz.func148 (by kernel_rfl) (by kernel_rfl) (by kernel_rfl) (e := Extern.MathFloatBits.float32frombits) (by kernel_rfl)]
 rfl
theorem run_bits (x : Nat) (w : World) : (callFunc 149 #[.float .f32 x]).run Tryz.prog w = .ok (.value (.int .u32 x)) w := by
 rw [run_callFunc_extern Tryz.func149 (by kernel_rfl) (by kernel_rfl) (by kernel_rfl) (e := Extern.MathFloatBits.float32bits) (by kernel_rfl)]
 rfl
theorem number_walk (x : Nat) (w : World) : Calls Tryz.prog 142 #[.int .u32 x] w fun e w' => e = .returned (.float .f32 x) ∧ w = w' := by
 have hx := run_frombits x
 go_enter Tryz.func142, Tryz.ntmps142
 go_wp2
 go_ret
 exact ⟨rfl, rfl⟩
theorem word_walk (x : Nat) (w : World) : Calls Tryz.prog 147 #[.float .f32 x] w fun e w' => e = .returned (.int .u32 (wordF x)) ∧ w = w' := by
 have hx := run_bits x
 by_cases h : (FloatKind.f32.format.order x x != some .eq) = true
 ·rw [show wordF x = 2143289344 from if_pos h]
  go_enter Tryz.func147, Tryz.ntmps147
  go_wp2
  go_ret
  exact ⟨rfl, rfl⟩
 ·rw [show wordF x = x from if_neg h]
  simp only [Bool.not_eq_true] at h
  go_enter Tryz.func147, Tryz.ntmps147
  go_wp2
  go_ret
  exact ⟨rfl, rfl⟩
theorem arith_none {P : Program} (op : BinOp) (a b : Nat) (hop : op = .add ∨ op = .sub ∨ op = .mul ∨ op = .quo) (h : floatBits op .f32 a b = none) (w : World) :
  ∃ n : Nat, (FloatKind.f32.format.order n n != some .eq) = true ∧ ∀ t, (binOp op t (.float .f32 a) (.float .f32 b)).run P w = .ok (.float .f32 n) w.drew := by
 refine ⟨Question.cut (.nanBits .f32 a b) (w.tape w.drawn (.nanBits .f32 a b)), ord_nan _ _ _, fun t => ?_⟩
 have hq : (Question.nanBits .f32 a b).forced = false := rfl
 rcases hop with rfl | rfl | rfl | rfl
 all_goals
  simp only [floatBits] at h
  simp [binOp, Op.floatArith, h, hq]
theorem Sum_walk (a b : Nat) (w : World) : Calls Tryz.prog 143 #[.int .u32 a, .int .u32 b] w fun e w' => e = .returned (.int .u32 (arithF .add a b)) ∧ (w' = w ∨ w' = w.drew) := by
 cases hf : floatBits .add .f32 a b with
 | some r =>
  have hop : ∀ t w, (binOp .add t (.float .f32 a) (.float .f32 b)).run Tryz.prog w = .ok (.float .f32 r) w := fun t w => run_float_arith w .add t .f32 a b r hf
  have hr : arithF .add a b = wordF r := by simp only [arithF, hf]
  rw [hr]
  clear hr hf
  go_enter Tryz.func143, Tryz.ntmps143
  go_wp2_with (first | (refine (number_walk _ _).mono ?_; rintro e w' ⟨rfl, rfl⟩) | (refine (word_walk _ _).mono ?_; rintro e w' ⟨rfl, rfl⟩))
  go_ret
  exact ⟨rfl, .inl rfl⟩
 | none =>
  obtain ⟨n, hn, hop⟩ := arith_none (P := Tryz.prog) .add a b (by simp) hf w
  have hr : arithF .add a b = wordF n := by simp only [arithF, hf, wordF, ordF, hn, if_true]
  rw [hr]
  clear hr hf hn
  go_enter Tryz.func143, Tryz.ntmps143
  go_wp2_with (first | (refine (number_walk _ _).mono ?_; rintro e w' ⟨rfl, rfl⟩) | (refine (word_walk _ _).mono ?_; rintro e w' ⟨rfl, rfl⟩))
  go_ret
  exact ⟨rfl, .inr rfl⟩
theorem Rest_walk (a b : Nat) (w : World) : Calls Tryz.prog 144 #[.int .u32 a, .int .u32 b] w fun e w' => e = .returned (.int .u32 (arithF .sub a b)) ∧ (w' = w ∨ w' = w.drew) := by
 cases hf : floatBits .sub .f32 a b with
 | some r =>
  have hop : ∀ t w, (binOp .sub t (.float .f32 a) (.float .f32 b)).run Tryz.prog w = .ok (.float .f32 r) w := fun t w => run_float_arith w .sub t .f32 a b r hf
  have hr : arithF .sub a b = wordF r := by simp only [arithF, hf]
  rw [hr]
  clear hr hf
  go_enter Tryz.func144, Tryz.ntmps144
  go_wp2_with (first | (refine (number_walk _ _).mono ?_; rintro e w' ⟨rfl, rfl⟩) | (refine (word_walk _ _).mono ?_; rintro e w' ⟨rfl, rfl⟩))
  go_ret
  exact ⟨rfl, .inl rfl⟩
 | none =>
  obtain ⟨n, hn, hop⟩ := arith_none (P := Tryz.prog) .sub a b (by simp) hf w
  have hr : arithF .sub a b = wordF n := by simp only [arithF, hf, wordF, ordF, hn, if_true]
  rw [hr]
  clear hr hf hn
  go_enter Tryz.func144, Tryz.ntmps144
  go_wp2_with (first | (refine (number_walk _ _).mono ?_; rintro e w' ⟨rfl, rfl⟩) | (refine (word_walk _ _).mono ?_; rintro e w' ⟨rfl, rfl⟩))
  go_ret
  exact ⟨rfl, .inr rfl⟩
theorem Product_walk (a b : Nat) (w : World) : Calls Tryz.prog 145 #[.int .u32 a, .int .u32 b] w fun e w' => e = .returned (.int .u32 (arithF .mul a b)) ∧ (w' = w ∨ w' = w.drew) := by
 cases hf : floatBits .mul .f32 a b with
 | some r =>
  have hop : ∀ t w, (binOp .mul t (.float .f32 a) (.float .f32 b)).run Tryz.prog w = .ok (.float .f32 r) w := fun t w => run_float_arith w .mul t .f32 a b r hf
  have hr : arithF .mul a b = wordF r := by simp only [arithF, hf]
  rw [hr]
  clear hr hf
  go_enter Tryz.func145, Tryz.ntmps145
  go_wp2_with (first | (refine (number_walk _ _).mono ?_; rintro e w' ⟨rfl, rfl⟩) | (refine (word_walk _ _).mono ?_; rintro e w' ⟨rfl, rfl⟩))
  go_ret
  exact ⟨rfl, .inl rfl⟩
 | none =>
  obtain ⟨n, hn, hop⟩ := arith_none (P := Tryz.prog) .mul a b (by simp) hf w
  have hr : arithF .mul a b = wordF n := by simp only [arithF, hf, wordF, ordF, hn, if_true]
  rw [hr]
  clear hr hf hn
  go_enter Tryz.func145, Tryz.ntmps145
  go_wp2_with (first | (refine (number_walk _ _).mono ?_; rintro e w' ⟨rfl, rfl⟩) | (refine (word_walk _ _).mono ?_; rintro e w' ⟨rfl, rfl⟩))
  go_ret
  exact ⟨rfl, .inr rfl⟩
theorem Ratio_walk (a b : Nat) (w : World) : Calls Tryz.prog 146 #[.int .u32 a, .int .u32 b] w fun e w' => e = .returned (.int .u32 (arithF .quo a b)) ∧ (w' = w ∨ w' = w.drew) := by
 cases hf : floatBits .quo .f32 a b with
 | some r =>
  have hop : ∀ t w, (binOp .quo t (.float .f32 a) (.float .f32 b)).run Tryz.prog w = .ok (.float .f32 r) w := fun t w => run_float_arith w .quo t .f32 a b r hf
  have hr : arithF .quo a b = wordF r := by simp only [arithF, hf]
  rw [hr]
  clear hr hf
  go_enter Tryz.func146, Tryz.ntmps146
  go_wp2_with (first | (refine (number_walk _ _).mono ?_; rintro e w' ⟨rfl, rfl⟩) | (refine (word_walk _ _).mono ?_; rintro e w' ⟨rfl, rfl⟩))
  go_ret
  exact ⟨rfl, .inl rfl⟩
 | none =>
  obtain ⟨n, hn, hop⟩ := arith_none (P := Tryz.prog) .quo a b (by simp) hf w
  have hr : arithF .quo a b = wordF n := by simp only [arithF, hf, wordF, ordF, hn, if_true]
  rw [hr]
  clear hr hf hn
  go_enter Tryz.func146, Tryz.ntmps146
  go_wp2_with (first | (refine (number_walk _ _).mono ?_; rintro e w' ⟨rfl, rfl⟩) | (refine (word_walk _ _).mono ?_; rintro e w' ⟨rfl, rfl⟩))
  go_ret
  exact ⟨rfl, .inr rfl⟩
theorem Stand_walk (a b : Nat) (w : World) : Calls Tryz.prog 136 #[.int .u32 a, .int .u32 b] w fun e w' => e = .returned (.int .u8 (standF a b)) ∧ w' = w := by
 cases h1 : (ordF a b == some .lt)
 ·cases h2 : (ordF a b == some .gt)
  ·cases h3 : (ordF a b == some .eq)
   ·rw [show standF a b = 1 by simp only [standF, h1, h2, h3, Bool.false_eq_true, if_false]]
    unfold ordF at h1 h2 h3
    go_enter Tryz.func136, Tryz.ntmps136
    go_wp2_with (refine (number_walk _ _).mono ?_; rintro e w' ⟨rfl, rfl⟩)
    go_ret
    exact ⟨rfl, rfl⟩
   ·rw [show standF a b = 3 by simp only [standF, h1, h2, h3, Bool.false_eq_true, if_false, if_true]]
    unfold ordF at h1 h2 h3
    go_enter Tryz.func136, Tryz.ntmps136
    go_wp2_with (refine (number_walk _ _).mono ?_; rintro e w' ⟨rfl, rfl⟩)
    go_ret
    exact ⟨rfl, rfl⟩
  ·rw [show standF a b = 4 by simp only [standF, h1, h2, Bool.false_eq_true, if_false, if_true]]
   unfold ordF at h1 h2
   go_enter Tryz.func136, Tryz.ntmps136
   go_wp2_with (refine (number_walk _ _).mono ?_; rintro e w' ⟨rfl, rfl⟩)
   go_ret
   exact ⟨rfl, rfl⟩
 ·rw [show standF a b = 2 by simp only [standF, h1, if_true]]
  unfold ordF at h1
  go_enter Tryz.func136, Tryz.ntmps136
  go_wp2_with (refine (number_walk _ _).mono ?_; rintro e w' ⟨rfl, rfl⟩)
  go_ret
  exact ⟨rfl, rfl⟩
theorem Toward_walk (a : Nat) (w : World) : Calls Tryz.prog 141 #[.int .u32 a] w fun e w' => e = .returned (.int .i32 (towardF a)) ∧ w' = w := by
 cases h1 : (ordF a a != some .eq)
 ·cases h2 : (ordF a 1325400064 == some .gt || ordF a 1325400064 == some .eq)
  ·cases h3 : (ordF a 3472883712 == some .lt)
   ·obtain ⟨n, hn⟩ := toward_some a h1 h2 h3
    rw [show towardF a = n by simp only [towardF, h1, h2, h3, hn, Option.getD_some, Bool.false_eq_true, if_false]]
    have hc : ∀ s d, (Tryz.prog.underlying s).isSome = true → Tryz.prog.underlying d = some (.int .i32) → ∀ w, (convert s d (.float .f32 a)).run Tryz.prog w = .ok (.int .i32 n) w := fun s d hs hd w => run_convert_float_int w s d .f32 .i32 a n hs hd hn
    unfold ordF at h1 h2 h3
    go_enter Tryz.func141, Tryz.ntmps141
    go_wp2_with (refine (number_walk _ _).mono ?_; rintro e w' ⟨rfl, rfl⟩)
    go_ret
    exact ⟨rfl, rfl⟩
   ·rw [show towardF a = -2147483648 by simp only [towardF, h1, h2, h3, Bool.false_eq_true, if_false, if_true]]
    unfold ordF at h1 h2 h3
    go_enter Tryz.func141, Tryz.ntmps141
    go_wp2_with (refine (number_walk _ _).mono ?_; rintro e w' ⟨rfl, rfl⟩)
    go_ret
    exact ⟨rfl, rfl⟩
  ·rw [show towardF a = 2147483647 by simp only [towardF, h1, h2, Bool.false_eq_true, if_false, if_true]]
   unfold ordF at h1 h2
   go_enter Tryz.func141, Tryz.ntmps141
   go_wp2_with (refine (number_walk _ _).mono ?_; rintro e w' ⟨rfl, rfl⟩)
   go_ret
   exact ⟨rfl, rfl⟩
 ·rw [show towardF a = 0 by simp only [towardF, h1, if_true]]
  unfold ordF at h1
  go_enter Tryz.func141, Tryz.ntmps141
  go_wp2_with (refine (number_walk _ _).mono ?_; rintro e w' ⟨rfl, rfl⟩)
  go_ret
  exact ⟨rfl, rfl⟩
theorem Of_walk (n : Int) (w : World) : Calls Tryz.prog 140 #[.int .i32 n] w fun e w' => e = .returned (.int .u32 (ofF n)) ∧ w' = w := by
 unfold ofF
 go_enter Tryz.func140, Tryz.ntmps140
 go_wp2_with (refine (word_walk _ _).mono ?_; rintro e w' ⟨rfl, rfl⟩)
 go_ret
 exact ⟨rfl, rfl⟩
end Go.Proofs.YtfplmcpkagpaiaaGreatDoor
end
section
namespace Go.Proofs.YtfplmcpkagpaiaaGreatDoor
open Go Go.Sim
theorem known_Sum {p : Array Oper → Bool} : ∀ args h r h', knUU (fun a b => .int .u32 (arithF .add a b)) args h = some (r, h') → CallS Tryz.prog p 143 args h r h' := known_uu Sum_walk
theorem known_Rest {p : Array Oper → Bool} : ∀ args h r h', knUU (fun a b => .int .u32 (arithF .sub a b)) args h = some (r, h') → CallS Tryz.prog p 144 args h r h' := known_uu Rest_walk
theorem known_Product {p : Array Oper → Bool} : ∀ args h r h', knUU (fun a b => .int .u32 (arithF .mul a b)) args h = some (r, h') → CallS Tryz.prog p 145 args h r h' := known_uu Product_walk
theorem known_Ratio {p : Array Oper → Bool} : ∀ args h r h', knUU (fun a b => .int .u32 (arithF .quo a b)) args h = some (r, h') → CallS Tryz.prog p 146 args h r h' := known_uu Ratio_walk
theorem known_Stand {p : Array Oper → Bool} : ∀ args h r h', knUU (fun a b => .int .u8 (standF a b)) args h = some (r, h') → CallS Tryz.prog p 136 args h r h' := known_uu fun a b w => (Stand_walk a b w).mono fun e w' ⟨h1, h2⟩ => ⟨h1, .inl h2⟩
theorem known_Toward {p : Array Oper → Bool} : ∀ args h r h', knU (fun a => .int .i32 (towardF a)) args h = some (r, h') → CallS Tryz.prog p 141 args h r h' := known_u Toward_walk
theorem known_Of {p : Array Oper → Bool} : ∀ args h r h', knI (fun a => .int .u32 (ofF a)) args h = some (r, h') → CallS Tryz.prog p 140 args h r h' := known_i Of_walk
end Go.Proofs.YtfplmcpkagpaiaaGreatDoor
end
section
namespace Go.Proofs.YtfplmcpkagpaiaaGreatDoor
open Go Go.Sim
def binI (op a b : Nat) : Int :=
 match op with
 | 39 => IntKind.u32.wrap ((a : Int) + b)
 | 40 => IntKind.u32.wrap ((a : Int) - b)
 | 41 => IntKind.u32.wrap ((a : Int) * b)
 | 42 => IntKind.u32.wrap (IntKind.i32.wrap ((IntKind.i32.wrap a).tdiv (IntKind.i32.wrap b)))
 | 43 => IntKind.u32.wrap ((a : Int) / b)
 | 44 => IntKind.u32.wrap ((IntKind.i32.wrap a).tmod (IntKind.i32.wrap b))
 | 45 => (a : Int) % b
 | 46 => IntKind.u32.wrap (andI 32 a b)
 | 47 => IntKind.u32.wrap (orI 32 a b)
 | 48 => IntKind.u32.wrap (xorI 32 a b)
 | 50 => IntKind.u32.wrap ((a : Int) * 2 ^ ((b : Int) % 32).toNat)
 | 51 => IntKind.u32.wrap ((IntKind.i32.wrap a).fdiv (2 ^ ((b : Int) % 32).toNat))
 | 52 => (a : Int).fdiv (2 ^ ((b : Int) % 32).toNat)
 | 54 => arithF .add a b
 | 55 => arithF .sub a b
 | 56 => arithF .mul a b
 | 57 => arithF .quo a b
 | _ => 0
def isBin (op : Nat) : Bool := decide (39 ≤ op ∧ op ≤ 57 ∧ op ≠ 49 ∧ op ≠ 53)
def divs (op b : Nat) : Bool := decide (((op = 42 ∨ op = 44) ∧ IntKind.i32.wrap b = 0) ∨ ((op = 43 ∨ op = 45) ∧ b = 0))
def binW (op a b : Nat) : Nat := if divs op b then 0 else (binI op a b).toNat
def binE (op b : Nat) : Nat := if divs op b then 60 else if isBin op then 0 else 61
theorem u32_nonneg (x : Int) : 0 ≤ IntKind.u32.wrap x := by
 have h : IntKind.u32.wrap x = x % 4294967296 := by simp [IntKind.wrap, IntKind.signed, IntKind.bits]
 rw [h]; omega
theorem wordF_nonneg (x : Nat) : 0 ≤ wordF x := by unfold wordF; split <;> omega
theorem arithF_nonneg (op : BinOp) (a b : Nat) : 0 ≤ arithF op a b := by
 unfold arithF; split
 ·exact wordF_nonneg _
 ·omega
theorem binI_nonneg (op a b : Nat) : 0 ≤ binI op a b := by
 unfold binI
 split
 all_goals first | exact u32_nonneg _ | exact arithF_nonneg _ _ _ | skip
 ·exact Int.natCast_nonneg (a % b)
 ·rw [Int.fdiv_eq_ediv_of_nonneg _ (Int.le_of_lt (Int.pow_pos (by omega)))]; exact Int.ediv_nonneg (by omega) (Int.le_of_lt (Int.pow_pos (by omega)))
 ·omega
theorem binW_cast {op a b : Nat} (h : divs op b = false) : ((binW op a b : Nat) : Int) = binI op a b := by
 unfold binW
 rw [h]
 have := binI_nonneg op a b
 simp only [Bool.false_eq_true, if_false]
 omega
end Go.Proofs.YtfplmcpkagpaiaaGreatDoor
end
