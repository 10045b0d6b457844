/-
  The law VerifySound: leads, sound.
-/
import Derived.Test.YtnojknodojjnnaaGreatVc
section
namespace Go.Proofs.YtnojknodojjnnaaGreat
open Go Go.Sim
set_option maxRecDepth 100000
set_option maxHeartbeats 0
set_option linter.unusedSimpArgs false
set_option linter.unusedVariables false

theorem wrapI {n : Int} (h : -9223372036854775808 ≤ n) (h2 : n ≤ 9223372036854775807) : IntKind.i64.wrap n = n := by rw [IntKind.wrap_i64]; omega
/-- A fact that the arithmetic does not see. -/
structure Hid (p : Prop) : Prop where
  h : p
theorem Leads (lent) {M : V} (hM : Solid M) (P : Fl.PR) (need : Int) (to : Nat) (hto : to < 4294967296) (d : Int) (hD : pureV E (om E) 9 false [M, .int .u32 to] = some (ii d)) :
    pureV E (om E) 36 lent [M, pnV P need, .int .u32 to] = some (bb (decide (P.b < to ∧ to < P.e ∧ 0 ≤ d))) := by
  apply pu_36
  obtain ⟨h1, h2, h3⟩ := hM
  by_cases c1 : P.b < to <;> by_cases c2 : to < P.e <;> by_cases c3 : 0 ≤ d <;> simp (disch := omega) [if_pos, if_neg, iteK_pos, iteK_neg, Tryz.f36, h1, h2, h3, hD, c1, c2, c3]
theorem eqv_boolV {E : Env} {n : Nat} {t : TypeId} {a b : Bool} (hu : E.P.underlying t = some .bool) : eqV E (n + 1) t (.bool a) (.bool b) = some (a == b) := by
  simp only [eqV, hu]
theorem neqBool (p q : Operand) (a b : Bool) : binO E .neq 4 p q (bb a) (bb b) = some (bb (a != b)) := by
  have h : eqV E 200 4 (.bool a) (.bool b) = some (a == b) := eqv_boolV (n := 199) (by rw [E_P]; exact Tryz.underlying4)
  simp [binO, binV, h, bne]
theorem Sound_walk {M : V} (hM : Solid M) {P : Fl.PR} {need : Int} {i : Nat} (hil : i < 16384) {op arg : Nat} {w : List UInt8} {wd ms kd tk gv : Nat} {d : Int} {bk : Bool} {d1 da : Int} (hs : SoundAt P need i op arg kd tk gv d bk d1 da) (hpe : P.e ≤ 16384)
    (hop : op < 256) (harg : arg < 4294967296)
    (hAt : pureV E (om E) 18 false [M, .int .u32 i] = some (.tuple [.agg [.int .u8 op, .int .u32 arg], bb true]))
    (hOf : pureV E (om E) 33 false [M, .int .u32 i] = some (.tuple [pnV P need, bb true]))
    (hIn : ∀ lent, pureV E (om E) 34 lent [.int .u8 op] = some (.tuple [.agg [.str w, .int .i64 wd, .int .u32 ms, .int .i64 tk, .int .i64 gv, .int .u8 kd], bb true]))
    (hBe : pureV E (om E) 35 false [M, .int .u32 i] = some (bb (decide (i = P.b))))
    (hD : pureV E (om E) 9 false [M, .int .u32 i] = some (ii d))
    (hBk : pureV E (om E) 19 false [M, .int .u32 ((i : Int) + 1)] = some (bb bk))
    (hD1 : pureV E (om E) 9 false [M, .int .u32 ((i : Int) + 1)] = some (ii d1))
    (hDa : pureV E (om E) 9 false [M, .int .u32 arg] = some (ii da)) :
    pureV E (om E) 11 false [M, .int .u32 i] = some (bb true) := by
  have hL1 : ∀ lent, pureV E (om E) 36 lent [M, pnV P need, .int .u32 ((i : Int) + 1)] = _ := fun lent => Leads lent hM P need (i + 1) (by omega) d1 hD1
  have hLa := fun lent => Leads lent hM P need arg harg da hDa
  obtain ⟨h1, h2, h3⟩ := hM
  obtain ⟨s1, s2, s3, s4, s5, s6, s7, s8, s9, s10, s11, s12, s13, s14, s15, s16, s17, s18, s19, s20, s21⟩ := hs
  have e1 : Hid (IntKind.u32.wrap ((i : Int) + 1) = (i : Int) + 1 ∧ ((i : Int) + 1) % 4294967296 = (i : Int) + 1) := ⟨by rw [IntKind.wrap_u32]; omega, by omega⟩
  have n1 : ¬ i < P.b := by omega
  have n2 : ¬ P.e ≤ i := by omega
  have n3 : ¬ need < 0 := by omega
  have n4 : ¬ 64 < need := by omega
  have e2 : Hid (IntKind.u32.wrap ((P.e : Int) - 1) = (P.e : Int) - 1 ∧ ((P.e : Int) - 1) % 4294967296 = (P.e : Int) - 1) := ⟨by rw [IntKind.wrap_u32]; omega, by omega⟩
  apply pu_11
  have hk : kd = 1 ∨ kd = 2 ∨ kd = 3 ∨ kd = 4 ∨ kd = 5 ∨ kd = 6 ∨ kd = 7 ∨ kd = 8 := by omega
  by_cases hd : d < 0
  · have hb := s13 hd
    subst hb
    rcases hk with rfl | rfl | rfl | rfl | rfl | rfl | rfl | rfl
    · have o3 : ¬ op = 3 := fun h => absurd (s5.2 h) (by decide)
      have ib : ¬ i = P.b := fun h => o3 (s3.2 h)
      have o5 : ¬ op = 5 := fun h => absurd (s6.2 h) (by decide)
      have hl : ¬ i + 1 = P.e := fun h => absurd (s7 h) (by decide)
      clear s3 s4 s5 s6 s7 s8 s11 s13 s14 s15 s16 s17 s18 s19 s20
      have Y : Hid (¬ (op : Int) = 3 ∧ ¬ op = 3 ∧ ¬ i = P.b ∧ ¬ (i : Int) = P.b ∧ ¬ (op : Int) = 5 ∧ ¬ op = 5 ∧ ¬ (i : Int) = (P.e : Int) - 1 ∧ ¬ i < P.b ∧ ¬ P.e ≤ i ∧ ¬ need < 0 ∧ ¬ 64 < need ∧ d < 0) := ⟨by omega, by omega, by omega, by omega, by omega, by omega, by omega, by omega, by omega, by omega, by omega, by omega⟩
      clear s1 s2 s9 s10 s12 s21 n1 n2 n3 n4 hd harg hop hpe hl o3 o5 ib
      simp (disch := omega) [if_pos, if_neg, iteK_pos, iteK_neg, Tryz.f11, neqBool, h1, h2, h3, hAt, hOf, hIn, hBe, hD, hBk, hD1, hDa, hL1, hLa, e1.h, e2.h, Y.h]
    · have o3 : ¬ op = 3 := fun h => absurd (s5.2 h) (by decide)
      have ib : ¬ i = P.b := fun h => o3 (s3.2 h)
      have o5 : ¬ op = 5 := fun h => absurd (s6.2 h) (by decide)
      have hl : ¬ i + 1 = P.e := fun h => absurd (s7 h) (by decide)
      have v1 := s11 (.inr rfl)
      clear s3 s4 s5 s6 s7 s8 s11 s13 s14 s15 s16 s17 s18 s19 s20
      have Y : Hid (¬ (op : Int) = 3 ∧ ¬ op = 3 ∧ ¬ i = P.b ∧ ¬ (i : Int) = P.b ∧ ¬ (op : Int) = 5 ∧ ¬ op = 5 ∧ ¬ (i : Int) = (P.e : Int) - 1 ∧ ¬ i < P.b ∧ ¬ P.e ≤ i ∧ ¬ need < 0 ∧ ¬ 64 < need ∧ ¬ arg ≤ P.b ∧ ¬ P.e ≤ arg ∧ P.b < arg ∧ arg < P.e ∧ d < 0) := ⟨by omega, by omega, by omega, by omega, by omega, by omega, by omega, by omega, by omega, by omega, by omega, by omega, by omega, by omega, by omega, by omega⟩
      clear s1 s2 s9 s10 s12 s21 n1 n2 n3 n4 hd harg hop hpe hl o3 o5 ib v1
      simp (disch := omega) [if_pos, if_neg, iteK_pos, iteK_neg, Tryz.f11, neqBool, h1, h2, h3, hAt, hOf, hIn, hBe, hD, hBk, hD1, hDa, hL1, hLa, e1.h, e2.h, Y.h]
    · have o3 : ¬ op = 3 := fun h => absurd (s5.2 h) (by decide)
      have ib : ¬ i = P.b := fun h => o3 (s3.2 h)
      have o5 : ¬ op = 5 := fun h => absurd (s6.2 h) (by decide)
      have v1 := s11 (.inl rfl)
      clear s3 s4 s5 s6 s7 s8 s11 s13 s14 s15 s16 s17 s18 s19 s20
      by_cases hl : i + 1 = P.e
      · have Y : Hid (¬ (op : Int) = 3 ∧ ¬ op = 3 ∧ ¬ i = P.b ∧ ¬ (i : Int) = P.b ∧ ¬ (op : Int) = 5 ∧ ¬ op = 5 ∧ ((i : Int) = (P.e : Int) - 1) = True ∧ ¬ i < P.b ∧ ¬ P.e ≤ i ∧ ¬ need < 0 ∧ ¬ 64 < need ∧ ¬ arg ≤ P.b ∧ ¬ P.e ≤ arg ∧ P.b < arg ∧ arg < P.e ∧ d < 0) := ⟨by omega, by omega, by omega, by omega, by omega, by omega, eq_true (by omega), by omega, by omega, by omega, by omega, by omega, by omega, by omega, by omega, by omega⟩
        clear s1 s2 s9 s10 s12 s21 n1 n2 n3 n4 hd harg hop hpe hl o3 o5 ib v1
        simp (disch := omega) [if_pos, if_neg, iteK_pos, iteK_neg, Tryz.f11, neqBool, h1, h2, h3, hAt, hOf, hIn, hBe, hD, hBk, hD1, hDa, hL1, hLa, e1.h, e2.h, Y.h]
      · have Y : Hid (¬ (op : Int) = 3 ∧ ¬ op = 3 ∧ ¬ i = P.b ∧ ¬ (i : Int) = P.b ∧ ¬ (op : Int) = 5 ∧ ¬ op = 5 ∧ ¬ (i : Int) = (P.e : Int) - 1 ∧ ¬ i < P.b ∧ ¬ P.e ≤ i ∧ ¬ need < 0 ∧ ¬ 64 < need ∧ ¬ arg ≤ P.b ∧ ¬ P.e ≤ arg ∧ P.b < arg ∧ arg < P.e ∧ d < 0) := ⟨by omega, by omega, by omega, by omega, by omega, by omega, by omega, by omega, by omega, by omega, by omega, by omega, by omega, by omega, by omega, by omega⟩
        clear s1 s2 s9 s10 s12 s21 n1 n2 n3 n4 hd harg hop hpe hl o3 o5 ib v1
        simp (disch := omega) [if_pos, if_neg, iteK_pos, iteK_neg, Tryz.f11, neqBool, h1, h2, h3, hAt, hOf, hIn, hBe, hD, hBk, hD1, hDa, hL1, hLa, e1.h, e2.h, Y.h]
    · have o3 : ¬ op = 3 := fun h => absurd (s5.2 h) (by decide)
      have ib : ¬ i = P.b := fun h => o3 (s3.2 h)
      have o5 : ¬ op = 5 := fun h => absurd (s6.2 h) (by decide)
      clear s3 s4 s5 s6 s7 s8 s11 s13 s14 s15 s16 s17 s18 s19 s20
      by_cases hl : i + 1 = P.e
      · have Y : Hid (¬ (op : Int) = 3 ∧ ¬ op = 3 ∧ ¬ i = P.b ∧ ¬ (i : Int) = P.b ∧ ¬ (op : Int) = 5 ∧ ¬ op = 5 ∧ ((i : Int) = (P.e : Int) - 1) = True ∧ ¬ i < P.b ∧ ¬ P.e ≤ i ∧ ¬ need < 0 ∧ ¬ 64 < need ∧ d < 0) := ⟨by omega, by omega, by omega, by omega, by omega, by omega, eq_true (by omega), by omega, by omega, by omega, by omega, by omega⟩
        clear s1 s2 s9 s10 s12 s21 n1 n2 n3 n4 hd harg hop hpe hl o3 o5 ib
        simp (disch := omega) [if_pos, if_neg, iteK_pos, iteK_neg, Tryz.f11, neqBool, h1, h2, h3, hAt, hOf, hIn, hBe, hD, hBk, hD1, hDa, hL1, hLa, e1.h, e2.h, Y.h]
      · have Y : Hid (¬ (op : Int) = 3 ∧ ¬ op = 3 ∧ ¬ i = P.b ∧ ¬ (i : Int) = P.b ∧ ¬ (op : Int) = 5 ∧ ¬ op = 5 ∧ ¬ (i : Int) = (P.e : Int) - 1 ∧ ¬ i < P.b ∧ ¬ P.e ≤ i ∧ ¬ need < 0 ∧ ¬ 64 < need ∧ d < 0) := ⟨by omega, by omega, by omega, by omega, by omega, by omega, by omega, by omega, by omega, by omega, by omega, by omega⟩
        clear s1 s2 s9 s10 s12 s21 n1 n2 n3 n4 hd harg hop hpe hl o3 o5 ib
        simp (disch := omega) [if_pos, if_neg, iteK_pos, iteK_neg, Tryz.f11, neqBool, h1, h2, h3, hAt, hOf, hIn, hBe, hD, hBk, hD1, hDa, hL1, hLa, e1.h, e2.h, Y.h]
    · have o3 : ¬ op = 3 := fun h => absurd (s5.2 h) (by decide)
      have ib : ¬ i = P.b := fun h => o3 (s3.2 h)
      have o5 := s6.1 rfl
      have hl : ¬ i + 1 = P.e := fun h => absurd (s7 h) (by decide)
      clear s3 s4 s5 s6 s7 s8 s11 s13 s14 s15 s16 s17 s18 s19 s20
      have Y : Hid (¬ (op : Int) = 3 ∧ ¬ op = 3 ∧ ¬ i = P.b ∧ ¬ (i : Int) = P.b ∧ ((op : Int) = 5) = True ∧ (op = 5) = True ∧ ¬ (i : Int) = (P.e : Int) - 1 ∧ ¬ i < P.b ∧ ¬ P.e ≤ i ∧ ¬ need < 0 ∧ ¬ 64 < need ∧ d < 0) := ⟨by omega, by omega, by omega, by omega, eq_true (by omega), eq_true (by omega), by omega, by omega, by omega, by omega, by omega, by omega⟩
      clear s1 s2 s9 s10 s12 s21 n1 n2 n3 n4 hd harg hop hpe hl o3 o5 ib
      simp (disch := omega) [if_pos, if_neg, iteK_pos, iteK_neg, Tryz.f11, neqBool, h1, h2, h3, hAt, hOf, hIn, hBe, hD, hBk, hD1, hDa, hL1, hLa, e1.h, e2.h, Y.h]
    · have o3 := s5.1 rfl
      have o5 : ¬ op = 5 := by omega
      have ib := s3.1 o3
      have hl : ¬ i + 1 = P.e := fun h => absurd (s7 h) (by decide)
      clear s3 s4 s5 s6 s7 s8 s11 s13 s14 s15 s16 s17 s18 s19 s20
      have Y : Hid (((op : Int) = 3) = True ∧ (op = 3) = True ∧ (i = P.b) = True ∧ ((i : Int) = P.b) = True ∧ ¬ (op : Int) = 5 ∧ ¬ op = 5 ∧ ¬ (i : Int) = (P.e : Int) - 1 ∧ ¬ i < P.b ∧ ¬ P.e ≤ i ∧ ¬ need < 0 ∧ ¬ 64 < need ∧ d < 0) := ⟨eq_true (by omega), eq_true (by omega), eq_true (by omega), eq_true (by omega), by omega, by omega, by omega, by omega, by omega, by omega, by omega, by omega⟩
      clear s1 s2 s9 s10 s12 s21 n1 n2 n3 n4 hd harg hop hpe hl o3 o5 ib
      simp (disch := omega) [if_pos, if_neg, iteK_pos, iteK_neg, Tryz.f11, neqBool, h1, h2, h3, hAt, hOf, hIn, hBe, hD, hBk, hD1, hDa, hL1, hLa, e1.h, e2.h, Y.h]
    · have o3 : ¬ op = 3 := fun h => absurd (s5.2 h) (by decide)
      have ib : ¬ i = P.b := fun h => o3 (s3.2 h)
      have o5 : ¬ op = 5 := fun h => absurd (s6.2 h) (by decide)
      have v1 := s8 rfl
      clear s3 s4 s5 s6 s7 s8 s11 s13 s14 s15 s16 s17 s18 s19 s20
      by_cases hl : i + 1 = P.e
      · have Y : Hid (¬ (op : Int) = 3 ∧ ¬ op = 3 ∧ ¬ i = P.b ∧ ¬ (i : Int) = P.b ∧ ¬ (op : Int) = 5 ∧ ¬ op = 5 ∧ ((i : Int) = (P.e : Int) - 1) = True ∧ ¬ i < P.b ∧ ¬ P.e ≤ i ∧ ¬ need < 0 ∧ ¬ 64 < need ∧ ((arg : Int) = P.f) = True ∧ (arg = P.f) = True ∧ d < 0) := ⟨by omega, by omega, by omega, by omega, by omega, by omega, eq_true (by omega), by omega, by omega, by omega, by omega, eq_true (by omega), eq_true (by omega), by omega⟩
        clear s1 s2 s9 s10 s12 s21 n1 n2 n3 n4 hd harg hop hpe hl o3 o5 ib v1
        simp (disch := omega) [if_pos, if_neg, iteK_pos, iteK_neg, Tryz.f11, neqBool, h1, h2, h3, hAt, hOf, hIn, hBe, hD, hBk, hD1, hDa, hL1, hLa, e1.h, e2.h, Y.h]
      · have Y : Hid (¬ (op : Int) = 3 ∧ ¬ op = 3 ∧ ¬ i = P.b ∧ ¬ (i : Int) = P.b ∧ ¬ (op : Int) = 5 ∧ ¬ op = 5 ∧ ¬ (i : Int) = (P.e : Int) - 1 ∧ ¬ i < P.b ∧ ¬ P.e ≤ i ∧ ¬ need < 0 ∧ ¬ 64 < need ∧ ((arg : Int) = P.f) = True ∧ (arg = P.f) = True ∧ d < 0) := ⟨by omega, by omega, by omega, by omega, by omega, by omega, by omega, by omega, by omega, by omega, by omega, eq_true (by omega), eq_true (by omega), by omega⟩
        clear s1 s2 s9 s10 s12 s21 n1 n2 n3 n4 hd harg hop hpe hl o3 o5 ib v1
        simp (disch := omega) [if_pos, if_neg, iteK_pos, iteK_neg, Tryz.f11, neqBool, h1, h2, h3, hAt, hOf, hIn, hBe, hD, hBk, hD1, hDa, hL1, hLa, e1.h, e2.h, Y.h]
    · have o3 : ¬ op = 3 := fun h => absurd (s5.2 h) (by decide)
      have ib : ¬ i = P.b := fun h => o3 (s3.2 h)
      have o5 : ¬ op = 5 := fun h => absurd (s6.2 h) (by decide)
      clear s3 s4 s5 s6 s7 s8 s11 s13 s14 s15 s16 s17 s18 s19 s20
      by_cases hl : i + 1 = P.e
      · have Y : Hid (¬ (op : Int) = 3 ∧ ¬ op = 3 ∧ ¬ i = P.b ∧ ¬ (i : Int) = P.b ∧ ¬ (op : Int) = 5 ∧ ¬ op = 5 ∧ ((i : Int) = (P.e : Int) - 1) = True ∧ ¬ i < P.b ∧ ¬ P.e ≤ i ∧ ¬ need < 0 ∧ ¬ 64 < need ∧ d < 0) := ⟨by omega, by omega, by omega, by omega, by omega, by omega, eq_true (by omega), by omega, by omega, by omega, by omega, by omega⟩
        clear s1 s2 s9 s10 s12 s21 n1 n2 n3 n4 hd harg hop hpe hl o3 o5 ib
        simp (disch := omega) [if_pos, if_neg, iteK_pos, iteK_neg, Tryz.f11, neqBool, h1, h2, h3, hAt, hOf, hIn, hBe, hD, hBk, hD1, hDa, hL1, hLa, e1.h, e2.h, Y.h]
      · have Y : Hid (¬ (op : Int) = 3 ∧ ¬ op = 3 ∧ ¬ i = P.b ∧ ¬ (i : Int) = P.b ∧ ¬ (op : Int) = 5 ∧ ¬ op = 5 ∧ ¬ (i : Int) = (P.e : Int) - 1 ∧ ¬ i < P.b ∧ ¬ P.e ≤ i ∧ ¬ need < 0 ∧ ¬ 64 < need ∧ d < 0) := ⟨by omega, by omega, by omega, by omega, by omega, by omega, by omega, by omega, by omega, by omega, by omega, by omega⟩
        clear s1 s2 s9 s10 s12 s21 n1 n2 n3 n4 hd harg hop hpe hl o3 o5 ib
        simp (disch := omega) [if_pos, if_neg, iteK_pos, iteK_neg, Tryz.f11, neqBool, h1, h2, h3, hAt, hOf, hIn, hBe, hD, hBk, hD1, hDa, hL1, hLa, e1.h, e2.h, Y.h]
  · have hd := Int.not_lt.1 hd
    have hb := s14 hd
    subst hb
    have t1 := s15 hd
    have t2 := s16 hd
    have t3 := s17 hd
    have t4 := s18 hd
    have t5 := s19 hd
    have t6 := s20 hd
    rcases hk with rfl | rfl | rfl | rfl | rfl | rfl | rfl | rfl
    · have o3 : ¬ op = 3 := fun h => absurd (s5.2 h) (by decide)
      have ib : ¬ i = P.b := fun h => o3 (s3.2 h)
      have o5 : ¬ op = 5 := fun h => absurd (s6.2 h) (by decide)
      have hl : ¬ i + 1 = P.e := fun h => absurd (s7 h) (by decide)
      have v3 := t5 (by decide) (by decide) (by decide) (by decide)
      clear s3 s4 s5 s6 s7 s8 s11 s13 s14 s15 s16 s17 s18 s19 s20 t4 t5 t6
      have Y : Hid (¬ (op : Int) = 3 ∧ ¬ op = 3 ∧ ¬ i = P.b ∧ ¬ (i : Int) = P.b ∧ ¬ (op : Int) = 5 ∧ ¬ op = 5 ∧ ¬ (i : Int) = (P.e : Int) - 1 ∧ ¬ i < P.b ∧ ¬ P.e ≤ i ∧ ¬ need < 0 ∧ ¬ 64 < need ∧ ¬ d < 0 ∧ ¬ need < d ∧ ¬ need < d - tk + gv ∧ d - tk + gv ≤ need ∧ ¬ d < tk ∧ IntKind.i64.wrap (d - tk) = d - tk ∧ IntKind.i64.wrap (d - tk + gv) = d - tk + gv ∧ P.b < i + 1 ∧ (i : Int) + 1 < P.e ∧ i + 1 < P.e ∧ 0 ≤ d1 ∧ (d1 = d - tk + gv) = True) := ⟨by omega, by omega, by omega, by omega, by omega, by omega, by omega, by omega, by omega, by omega, by omega, by omega, by omega, by omega, by omega, by omega, wrapI (by omega) (by omega), wrapI (by omega) (by omega), by omega, by omega, by omega, by omega, eq_true (by omega)⟩
      clear s1 s2 s9 s10 s12 s21 n1 n2 n3 n4 hd harg hop hpe hl o3 o5 ib t1 t2 t3 v3
      simp (disch := omega) [if_pos, if_neg, iteK_pos, iteK_neg, Tryz.f11, neqBool, h1, h2, h3, hAt, hOf, hIn, hBe, hD, hBk, hD1, hDa, hL1, hLa, e1.h, e2.h, Y.h]
    · have o3 : ¬ op = 3 := fun h => absurd (s5.2 h) (by decide)
      have ib : ¬ i = P.b := fun h => o3 (s3.2 h)
      have o5 : ¬ op = 5 := fun h => absurd (s6.2 h) (by decide)
      have hl : ¬ i + 1 = P.e := fun h => absurd (s7 h) (by decide)
      have v1 := s11 (.inr rfl)
      have v2 := t6 (.inr rfl)
      have v3 := t5 (by decide) (by decide) (by decide) (by decide)
      clear s3 s4 s5 s6 s7 s8 s11 s13 s14 s15 s16 s17 s18 s19 s20 t4 t5 t6
      have Y : Hid (¬ (op : Int) = 3 ∧ ¬ op = 3 ∧ ¬ i = P.b ∧ ¬ (i : Int) = P.b ∧ ¬ (op : Int) = 5 ∧ ¬ op = 5 ∧ ¬ (i : Int) = (P.e : Int) - 1 ∧ ¬ i < P.b ∧ ¬ P.e ≤ i ∧ ¬ need < 0 ∧ ¬ 64 < need ∧ ¬ arg ≤ P.b ∧ ¬ P.e ≤ arg ∧ P.b < arg ∧ arg < P.e ∧ ¬ d < 0 ∧ ¬ need < d ∧ ¬ need < d - tk + gv ∧ d - tk + gv ≤ need ∧ ¬ d < tk ∧ IntKind.i64.wrap (d - tk) = d - tk ∧ IntKind.i64.wrap (d - tk + gv) = d - tk + gv ∧ P.b < i + 1 ∧ (i : Int) + 1 < P.e ∧ i + 1 < P.e ∧ 0 ≤ d1 ∧ (d1 = d - tk + gv) = True ∧ 0 ≤ da ∧ (da = d - tk + gv) = True) := ⟨by omega, by omega, by omega, by omega, by omega, by omega, by omega, by omega, by omega, by omega, by omega, by omega, by omega, by omega, by omega, by omega, by omega, by omega, by omega, by omega, wrapI (by omega) (by omega), wrapI (by omega) (by omega), by omega, by omega, by omega, by omega, eq_true (by omega), by omega, eq_true (by omega)⟩
      clear s1 s2 s9 s10 s12 s21 n1 n2 n3 n4 hd harg hop hpe hl o3 o5 ib t1 t2 t3 v1 v2 v3
      simp (disch := omega) [if_pos, if_neg, iteK_pos, iteK_neg, Tryz.f11, neqBool, h1, h2, h3, hAt, hOf, hIn, hBe, hD, hBk, hD1, hDa, hL1, hLa, e1.h, e2.h, Y.h]
    · have o3 : ¬ op = 3 := fun h => absurd (s5.2 h) (by decide)
      have ib : ¬ i = P.b := fun h => o3 (s3.2 h)
      have o5 : ¬ op = 5 := fun h => absurd (s6.2 h) (by decide)
      have v1 := s11 (.inl rfl)
      have v2 := t6 (.inl rfl)
      clear s3 s4 s5 s6 s7 s8 s11 s13 s14 s15 s16 s17 s18 s19 s20 t4 t5 t6
      by_cases hl : i + 1 = P.e
      · have Y : Hid (¬ (op : Int) = 3 ∧ ¬ op = 3 ∧ ¬ i = P.b ∧ ¬ (i : Int) = P.b ∧ ¬ (op : Int) = 5 ∧ ¬ op = 5 ∧ ((i : Int) = (P.e : Int) - 1) = True ∧ ¬ i < P.b ∧ ¬ P.e ≤ i ∧ ¬ need < 0 ∧ ¬ 64 < need ∧ ¬ arg ≤ P.b ∧ ¬ P.e ≤ arg ∧ P.b < arg ∧ arg < P.e ∧ ¬ d < 0 ∧ ¬ need < d ∧ ¬ need < d - tk + gv ∧ d - tk + gv ≤ need ∧ ¬ d < tk ∧ IntKind.i64.wrap (d - tk) = d - tk ∧ IntKind.i64.wrap (d - tk + gv) = d - tk + gv ∧ 0 ≤ da ∧ (da = d - tk + gv) = True) := ⟨by omega, by omega, by omega, by omega, by omega, by omega, eq_true (by omega), by omega, by omega, by omega, by omega, by omega, by omega, by omega, by omega, by omega, by omega, by omega, by omega, by omega, wrapI (by omega) (by omega), wrapI (by omega) (by omega), by omega, eq_true (by omega)⟩
        clear s1 s2 s9 s10 s12 s21 n1 n2 n3 n4 hd harg hop hpe hl o3 o5 ib t1 t2 t3 v1 v2
        simp (disch := omega) [if_pos, if_neg, iteK_pos, iteK_neg, Tryz.f11, neqBool, h1, h2, h3, hAt, hOf, hIn, hBe, hD, hBk, hD1, hDa, hL1, hLa, e1.h, e2.h, Y.h]
      · have Y : Hid (¬ (op : Int) = 3 ∧ ¬ op = 3 ∧ ¬ i = P.b ∧ ¬ (i : Int) = P.b ∧ ¬ (op : Int) = 5 ∧ ¬ op = 5 ∧ ¬ (i : Int) = (P.e : Int) - 1 ∧ ¬ i < P.b ∧ ¬ P.e ≤ i ∧ ¬ need < 0 ∧ ¬ 64 < need ∧ ¬ arg ≤ P.b ∧ ¬ P.e ≤ arg ∧ P.b < arg ∧ arg < P.e ∧ ¬ d < 0 ∧ ¬ need < d ∧ ¬ need < d - tk + gv ∧ d - tk + gv ≤ need ∧ ¬ d < tk ∧ IntKind.i64.wrap (d - tk) = d - tk ∧ IntKind.i64.wrap (d - tk + gv) = d - tk + gv ∧ 0 ≤ da ∧ (da = d - tk + gv) = True) := ⟨by omega, by omega, by omega, by omega, by omega, by omega, by omega, by omega, by omega, by omega, by omega, by omega, by omega, by omega, by omega, by omega, by omega, by omega, by omega, by omega, wrapI (by omega) (by omega), wrapI (by omega) (by omega), by omega, eq_true (by omega)⟩
        clear s1 s2 s9 s10 s12 s21 n1 n2 n3 n4 hd harg hop hpe hl o3 o5 ib t1 t2 t3 v1 v2
        simp (disch := omega) [if_pos, if_neg, iteK_pos, iteK_neg, Tryz.f11, neqBool, h1, h2, h3, hAt, hOf, hIn, hBe, hD, hBk, hD1, hDa, hL1, hLa, e1.h, e2.h, Y.h]
    · have o3 : ¬ op = 3 := fun h => absurd (s5.2 h) (by decide)
      have ib : ¬ i = P.b := fun h => o3 (s3.2 h)
      have o5 : ¬ op = 5 := fun h => absurd (s6.2 h) (by decide)
      clear s3 s4 s5 s6 s7 s8 s11 s13 s14 s15 s16 s17 s18 s19 s20 t4 t5 t6
      by_cases hl : i + 1 = P.e
      · have Y : Hid (¬ (op : Int) = 3 ∧ ¬ op = 3 ∧ ¬ i = P.b ∧ ¬ (i : Int) = P.b ∧ ¬ (op : Int) = 5 ∧ ¬ op = 5 ∧ ((i : Int) = (P.e : Int) - 1) = True ∧ ¬ i < P.b ∧ ¬ P.e ≤ i ∧ ¬ need < 0 ∧ ¬ 64 < need ∧ ¬ d < 0 ∧ ¬ need < d ∧ ¬ need < d - tk + gv ∧ d - tk + gv ≤ need ∧ ¬ d < tk ∧ IntKind.i64.wrap (d - tk) = d - tk ∧ IntKind.i64.wrap (d - tk + gv) = d - tk + gv) := ⟨by omega, by omega, by omega, by omega, by omega, by omega, eq_true (by omega), by omega, by omega, by omega, by omega, by omega, by omega, by omega, by omega, by omega, wrapI (by omega) (by omega), wrapI (by omega) (by omega)⟩
        clear s1 s2 s9 s10 s12 s21 n1 n2 n3 n4 hd harg hop hpe hl o3 o5 ib t1 t2 t3
        simp (disch := omega) [if_pos, if_neg, iteK_pos, iteK_neg, Tryz.f11, neqBool, h1, h2, h3, hAt, hOf, hIn, hBe, hD, hBk, hD1, hDa, hL1, hLa, e1.h, e2.h, Y.h]
      · have Y : Hid (¬ (op : Int) = 3 ∧ ¬ op = 3 ∧ ¬ i = P.b ∧ ¬ (i : Int) = P.b ∧ ¬ (op : Int) = 5 ∧ ¬ op = 5 ∧ ¬ (i : Int) = (P.e : Int) - 1 ∧ ¬ i < P.b ∧ ¬ P.e ≤ i ∧ ¬ need < 0 ∧ ¬ 64 < need ∧ ¬ d < 0 ∧ ¬ need < d ∧ ¬ need < d - tk + gv ∧ d - tk + gv ≤ need ∧ ¬ d < tk ∧ IntKind.i64.wrap (d - tk) = d - tk ∧ IntKind.i64.wrap (d - tk + gv) = d - tk + gv) := ⟨by omega, by omega, by omega, by omega, by omega, by omega, by omega, by omega, by omega, by omega, by omega, by omega, by omega, by omega, by omega, by omega, wrapI (by omega) (by omega), wrapI (by omega) (by omega)⟩
        clear s1 s2 s9 s10 s12 s21 n1 n2 n3 n4 hd harg hop hpe hl o3 o5 ib t1 t2 t3
        simp (disch := omega) [if_pos, if_neg, iteK_pos, iteK_neg, Tryz.f11, neqBool, h1, h2, h3, hAt, hOf, hIn, hBe, hD, hBk, hD1, hDa, hL1, hLa, e1.h, e2.h, Y.h]
    · have o3 : ¬ op = 3 := fun h => absurd (s5.2 h) (by decide)
      have ib : ¬ i = P.b := fun h => o3 (s3.2 h)
      have o5 := s6.1 rfl
      have hl : ¬ i + 1 = P.e := fun h => absurd (s7 h) (by decide)
      have v3 := t5 (by decide) (by decide) (by decide) (by decide)
      clear s3 s4 s5 s6 s7 s8 s11 s13 s14 s15 s16 s17 s18 s19 s20 t4 t5 t6
      have Y : Hid (¬ (op : Int) = 3 ∧ ¬ op = 3 ∧ ¬ i = P.b ∧ ¬ (i : Int) = P.b ∧ ((op : Int) = 5) = True ∧ (op = 5) = True ∧ ¬ (i : Int) = (P.e : Int) - 1 ∧ ¬ i < P.b ∧ ¬ P.e ≤ i ∧ ¬ need < 0 ∧ ¬ 64 < need ∧ ¬ d < 0 ∧ ¬ need < d ∧ ¬ need < d - tk + gv ∧ d - tk + gv ≤ need ∧ ¬ d < tk ∧ IntKind.i64.wrap (d - tk) = d - tk ∧ IntKind.i64.wrap (d - tk + gv) = d - tk + gv ∧ P.b < i + 1 ∧ (i : Int) + 1 < P.e ∧ i + 1 < P.e ∧ 0 ≤ d1 ∧ (d1 = d - tk + gv) = True) := ⟨by omega, by omega, by omega, by omega, eq_true (by omega), eq_true (by omega), by omega, by omega, by omega, by omega, by omega, by omega, by omega, by omega, by omega, by omega, wrapI (by omega) (by omega), wrapI (by omega) (by omega), by omega, by omega, by omega, by omega, eq_true (by omega)⟩
      clear s1 s2 s9 s10 s12 s21 n1 n2 n3 n4 hd harg hop hpe hl o3 o5 ib t1 t2 t3 v3
      simp (disch := omega) [if_pos, if_neg, iteK_pos, iteK_neg, Tryz.f11, neqBool, h1, h2, h3, hAt, hOf, hIn, hBe, hD, hBk, hD1, hDa, hL1, hLa, e1.h, e2.h, Y.h]
    · have o3 := s5.1 rfl
      have o5 : ¬ op = 5 := by omega
      have ib := s3.1 o3
      have hl : ¬ i + 1 = P.e := fun h => absurd (s7 h) (by decide)
      have v3 := t5 (by decide) (by decide) (by decide) (by decide)
      clear s3 s4 s5 s6 s7 s8 s11 s13 s14 s15 s16 s17 s18 s19 s20 t4 t5 t6
      have Y : Hid (((op : Int) = 3) = True ∧ (op = 3) = True ∧ (i = P.b) = True ∧ ((i : Int) = P.b) = True ∧ ¬ (op : Int) = 5 ∧ ¬ op = 5 ∧ ¬ (i : Int) = (P.e : Int) - 1 ∧ ¬ i < P.b ∧ ¬ P.e ≤ i ∧ ¬ need < 0 ∧ ¬ 64 < need ∧ ¬ d < 0 ∧ ¬ need < d ∧ ¬ need < d - tk + gv ∧ d - tk + gv ≤ need ∧ ¬ d < tk ∧ IntKind.i64.wrap (d - tk) = d - tk ∧ IntKind.i64.wrap (d - tk + gv) = d - tk + gv ∧ P.b < i + 1 ∧ (i : Int) + 1 < P.e ∧ i + 1 < P.e ∧ 0 ≤ d1 ∧ (d1 = d - tk + gv) = True) := ⟨eq_true (by omega), eq_true (by omega), eq_true (by omega), eq_true (by omega), by omega, by omega, by omega, by omega, by omega, by omega, by omega, by omega, by omega, by omega, by omega, by omega, wrapI (by omega) (by omega), wrapI (by omega) (by omega), by omega, by omega, by omega, by omega, eq_true (by omega)⟩
      clear s1 s2 s9 s10 s12 s21 n1 n2 n3 n4 hd harg hop hpe hl o3 o5 ib t1 t2 t3 v3
      simp (disch := omega) [if_pos, if_neg, iteK_pos, iteK_neg, Tryz.f11, neqBool, h1, h2, h3, hAt, hOf, hIn, hBe, hD, hBk, hD1, hDa, hL1, hLa, e1.h, e2.h, Y.h]
    · have o3 : ¬ op = 3 := fun h => absurd (s5.2 h) (by decide)
      have ib : ¬ i = P.b := fun h => o3 (s3.2 h)
      have o5 : ¬ op = 5 := fun h => absurd (s6.2 h) (by decide)
      have v1 := s8 rfl
      have v2 := t4 rfl
      clear s3 s4 s5 s6 s7 s8 s11 s13 s14 s15 s16 s17 s18 s19 s20 t4 t5 t6
      by_cases hl : i + 1 = P.e
      · have Y : Hid (¬ (op : Int) = 3 ∧ ¬ op = 3 ∧ ¬ i = P.b ∧ ¬ (i : Int) = P.b ∧ ¬ (op : Int) = 5 ∧ ¬ op = 5 ∧ ((i : Int) = (P.e : Int) - 1) = True ∧ ¬ i < P.b ∧ ¬ P.e ≤ i ∧ ¬ need < 0 ∧ ¬ 64 < need ∧ ((arg : Int) = P.f) = True ∧ (arg = P.f) = True ∧ ¬ d < 0 ∧ ¬ need < d ∧ ¬ need < d - tk + gv ∧ d - tk + gv ≤ need ∧ ¬ d < tk ∧ IntKind.i64.wrap (d - tk) = d - tk ∧ IntKind.i64.wrap (d - tk + gv) = d - tk + gv ∧ (d = 1) = True) := ⟨by omega, by omega, by omega, by omega, by omega, by omega, eq_true (by omega), by omega, by omega, by omega, by omega, eq_true (by omega), eq_true (by omega), by omega, by omega, by omega, by omega, by omega, wrapI (by omega) (by omega), wrapI (by omega) (by omega), eq_true (by omega)⟩
        clear s1 s2 s9 s10 s12 s21 n1 n2 n3 n4 hd harg hop hpe hl o3 o5 ib t1 t2 t3 v1 v2
        simp (disch := omega) [if_pos, if_neg, iteK_pos, iteK_neg, Tryz.f11, neqBool, h1, h2, h3, hAt, hOf, hIn, hBe, hD, hBk, hD1, hDa, hL1, hLa, e1.h, e2.h, Y.h]
      · have Y : Hid (¬ (op : Int) = 3 ∧ ¬ op = 3 ∧ ¬ i = P.b ∧ ¬ (i : Int) = P.b ∧ ¬ (op : Int) = 5 ∧ ¬ op = 5 ∧ ¬ (i : Int) = (P.e : Int) - 1 ∧ ¬ i < P.b ∧ ¬ P.e ≤ i ∧ ¬ need < 0 ∧ ¬ 64 < need ∧ ((arg : Int) = P.f) = True ∧ (arg = P.f) = True ∧ ¬ d < 0 ∧ ¬ need < d ∧ ¬ need < d - tk + gv ∧ d - tk + gv ≤ need ∧ ¬ d < tk ∧ IntKind.i64.wrap (d - tk) = d - tk ∧ IntKind.i64.wrap (d - tk + gv) = d - tk + gv ∧ (d = 1) = True) := ⟨by omega, by omega, by omega, by omega, by omega, by omega, by omega, by omega, by omega, by omega, by omega, eq_true (by omega), eq_true (by omega), by omega, by omega, by omega, by omega, by omega, wrapI (by omega) (by omega), wrapI (by omega) (by omega), eq_true (by omega)⟩
        clear s1 s2 s9 s10 s12 s21 n1 n2 n3 n4 hd harg hop hpe hl o3 o5 ib t1 t2 t3 v1 v2
        simp (disch := omega) [if_pos, if_neg, iteK_pos, iteK_neg, Tryz.f11, neqBool, h1, h2, h3, hAt, hOf, hIn, hBe, hD, hBk, hD1, hDa, hL1, hLa, e1.h, e2.h, Y.h]
    · have o3 : ¬ op = 3 := fun h => absurd (s5.2 h) (by decide)
      have ib : ¬ i = P.b := fun h => o3 (s3.2 h)
      have o5 : ¬ op = 5 := fun h => absurd (s6.2 h) (by decide)
      clear s3 s4 s5 s6 s7 s8 s11 s13 s14 s15 s16 s17 s18 s19 s20 t4 t5 t6
      by_cases hl : i + 1 = P.e
      · have Y : Hid (¬ (op : Int) = 3 ∧ ¬ op = 3 ∧ ¬ i = P.b ∧ ¬ (i : Int) = P.b ∧ ¬ (op : Int) = 5 ∧ ¬ op = 5 ∧ ((i : Int) = (P.e : Int) - 1) = True ∧ ¬ i < P.b ∧ ¬ P.e ≤ i ∧ ¬ need < 0 ∧ ¬ 64 < need ∧ ¬ d < 0 ∧ ¬ need < d ∧ ¬ need < d - tk + gv ∧ d - tk + gv ≤ need ∧ ¬ d < tk ∧ IntKind.i64.wrap (d - tk) = d - tk ∧ IntKind.i64.wrap (d - tk + gv) = d - tk + gv) := ⟨by omega, by omega, by omega, by omega, by omega, by omega, eq_true (by omega), by omega, by omega, by omega, by omega, by omega, by omega, by omega, by omega, by omega, wrapI (by omega) (by omega), wrapI (by omega) (by omega)⟩
        clear s1 s2 s9 s10 s12 s21 n1 n2 n3 n4 hd harg hop hpe hl o3 o5 ib t1 t2 t3
        simp (disch := omega) [if_pos, if_neg, iteK_pos, iteK_neg, Tryz.f11, neqBool, h1, h2, h3, hAt, hOf, hIn, hBe, hD, hBk, hD1, hDa, hL1, hLa, e1.h, e2.h, Y.h]
      · have Y : Hid (¬ (op : Int) = 3 ∧ ¬ op = 3 ∧ ¬ i = P.b ∧ ¬ (i : Int) = P.b ∧ ¬ (op : Int) = 5 ∧ ¬ op = 5 ∧ ¬ (i : Int) = (P.e : Int) - 1 ∧ ¬ i < P.b ∧ ¬ P.e ≤ i ∧ ¬ need < 0 ∧ ¬ 64 < need ∧ ¬ d < 0 ∧ ¬ need < d ∧ ¬ need < d - tk + gv ∧ d - tk + gv ≤ need ∧ ¬ d < tk ∧ IntKind.i64.wrap (d - tk) = d - tk ∧ IntKind.i64.wrap (d - tk + gv) = d - tk + gv) := ⟨by omega, by omega, by omega, by omega, by omega, by omega, by omega, by omega, by omega, by omega, by omega, by omega, by omega, by omega, by omega, by omega, wrapI (by omega) (by omega), wrapI (by omega) (by omega)⟩
        clear s1 s2 s9 s10 s12 s21 n1 n2 n3 n4 hd harg hop hpe hl o3 o5 ib t1 t2 t3
        simp (disch := omega) [if_pos, if_neg, iteK_pos, iteK_neg, Tryz.f11, neqBool, h1, h2, h3, hAt, hOf, hIn, hBe, hD, hBk, hD1, hDa, hL1, hLa, e1.h, e2.h, Y.h]
end Go.Proofs.YtnojknodojjnnaaGreat
end
