/-
  playpenkit.SameBytes, image.Canonical; the law ImageOne, walked.
-/
import Derived.Test.YtihmfdmojnfdpaaNh
import Derived.Test.YtihmfdmojnfdpaaNg
section
namespace Go.Proofs.Ytihmfdmojnfdpaa
open Go Go.Sim
set_option maxRecDepth 100000
set_option linter.unusedSimpArgs false
set_option linter.unusedVariables false

theorem SameBytes (lent) (a b : List UInt8) (ha : a.length < 2 ^ 40) (hb : b.length < 2 ^ 40) : pureV E (om E) 16 lent [bs a, bs b] = some (bb (decide (a = b))) := by
  apply pu_16
  by_cases hl : a.length = b.length
  · simp (disch := omega) [if_pos, if_neg, iteK_pos, iteK_neg, Try.f16, hl]
    refine loop_use (dyn := []) (fun (i : Nat) => [bs a, bs b, xx, xx, xx, ii i, bs a, ii b.length, bs b, ii b.length, bb false] ++ pois 15) (fun _ => [[]]) (fun i => i ≤ b.length ∧ a.take i = b.take i) (fun i => b.length - i) hint_16_0 (by kernel_rfl) ?_ 0 (by simp) (by simp [hl])
    rintro i ⟨hi, he⟩ IH
    rw [lpB_eq]
    by_cases hlt : i < b.length
    · have hla : i < a.length := by omega
      by_cases hx : a[i] = b[i]
      · simp (disch := omega) [if_pos, if_neg, iteK_pos, iteK_neg, hlt, hl, hx]
        exact IH (i + 1) _ _ ⟨by omega, by rw [take_snoc hla, take_snoc hlt, he, hx]⟩ (by omega) (by simp)
      · have hne : ¬ a = b := by rintro rfl; exact hx rfl
        have hx' : ¬ (a[i].toNat : Int) = (b[i].toNat : Int) := fun h => hx (UInt8.toNat_inj.1 (by omega))
        simp (disch := omega) [if_pos, if_neg, iteK_pos, iteK_neg, hlt, hl, hx', hne]
    · have hab : a = b := by
        have := he
        rw [List.take_of_length_le (by omega), List.take_of_length_le (by omega)] at this
        exact this
      simp (disch := omega) [if_pos, if_neg, iteK_pos, iteK_neg, hlt, hl, hab]
  · have hne : ¬ a = b := fun h => hl (by rw [h])
    simp (disch := omega) [if_pos, if_neg, iteK_pos, iteK_neg, Try.f16, hl, hne]
theorem Canonical_bad (lent) (l : List UInt8) (hl : l.length < 2 ^ 63) (h : (parseP l).2.2 ≠ 0) : pureV E (om E) 13 lent [bs l] = some (bb false) := by
  apply pu_13
  have hP := Parse l hl
  simp (disch := omega) [if_pos, if_neg, iteK_pos, iteK_neg, Try.f13, hP, h]
theorem Canonical_ok (lent) (l : List UInt8) (h : (parseP l).2.2 = 0) : pureV E (om E) 13 lent [bs l] = some (bb (decide (encP (parseP l).1 = l))) := by
  apply pu_13
  obtain ⟨hlo, hhi, _⟩ := headP_ok (parse_head h)
  have hP := Parse l (by omega)
  have hE := ImageEncode (parseP l).1 (parse_check h)
  have hs := enc_shorter h
  have hQ := fun lent => Equal8 lent (encP (parseP l).1) l (by omega) (by omega)
  simp (disch := omega) [if_pos, if_neg, iteK_pos, iteK_neg, Try.f13, hP, h, hE, hQ]
theorem eqv_bool {E : Env} {n : Nat} {t : TypeId} {a b : Bool} (hu : E.P.underlying t = some .bool) : eqV E (n + 1) t (.bool a) (.bool b) = some (a == b) := by
  simp only [eqV, hu]
theorem eqlBool (p q : Operand) (a b : Bool) : binO E .eql 4 p q (bb a) (bb b) = some (bb (a == b)) := by
  have h : eqV E 200 4 (.bool a) (.bool b) = some (a == b) := eqv_bool (n := 199) (by rw [E_P]; exact Try.underlying4)
  simp [binO, binV, h]
theorem ImageOne (l : List UInt8) (hl : l.length < 2 ^ 63) : pureV E (om E) 5 false [bs l] = some (bb true) := by
  apply pu_5
  have hP := Parse l hl
  by_cases h1 : (parseP l).2.2 = 0
  · obtain ⟨hlo, hhi, _⟩ := headP_ok (parse_head h1)
    have hc := parse_check h1
    have hE := ImageEncode (parseP l).1 hc
    have hs := enc_shorter h1
    have hPc := Parse (encP (parseP l).1) (by omega)
    have hback := parse_enc hc
    rw [hback] at hPc
    obtain ⟨n1, n2, n3, n4⟩ := parse_len l
    have hC := fun lent => ImageCheck lent (parseP l).1 (by omega) (by omega) (by omega) (by omega)
    simp only [hc] at hC
    have hSa := Same_self false (parseP l).1 (by omega) (by omega) (by omega) (by omega)
    have hK := fun lent => Canonical_ok lent l h1
    have hB := fun lent => SameBytes lent l (encP (parseP l).1) (by omega) (by omega)
    have hdec : decide (l = encP (parseP l).1) = decide (encP (parseP l).1 = l) := by rw [decide_eq_decide]; exact eq_comm
    simp (disch := omega) [if_pos, if_neg, iteK_pos, iteK_neg, Try.f5, lives, hP, h1, hE, hPc, hC, hSa, hK, hB, hdec, eqlBool]
  · have hK := fun lent => Canonical_bad lent l hl h1
    simp (disch := omega) [if_pos, if_neg, iteK_pos, iteK_neg, Try.f5, lives, hP, h1, hK]
end Go.Proofs.Ytihmfdmojnfdpaa
end
