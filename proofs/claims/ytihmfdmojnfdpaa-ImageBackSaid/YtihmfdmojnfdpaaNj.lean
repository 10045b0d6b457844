/-
  image.Bits, image.Size, image.Encode of what may not be written; the law ImageBack, walked.
-/
import Derived.Test.YtihmfdmojnfdpaaNi
section
namespace Go.Proofs.Ytihmfdmojnfdpaa
open Go Go.Sim
set_option maxRecDepth 100000
set_option linter.unusedSimpArgs false
set_option linter.unusedVariables false

theorem ImageEncode_bad (x : Img) (h1 : x.code.length < 2 ^ 63) (h2 : x.jumps.length < 2 ^ 63) (h3 : x.data.length < 2 ^ 63) (h4 : x.names.length < 2 ^ 63) (hc : checkP x ≠ 0) : pureV E (om E) 14 false [imgV x] = some (.tuple [bs [], ii (checkP x)]) := by
  apply pu_14
  have hC := fun lent => ImageCheck lent x h1 h2 h3 h4
  simp (disch := omega) [if_pos, if_neg, iteK_pos, iteK_neg, Try.f14, hC, hc]
theorem ImageSize_ok (x : Img) (hc : checkP x = 0) : pureV E (om E) 17 false [imgV x] = some (.tuple [ii (encP x).length, ii 0]) := by
  apply pu_17
  have hE := ImageEncode x hc
  simp (disch := omega) [if_pos, if_neg, iteK_pos, iteK_neg, Try.f17, hE]
theorem ImageSize_bad (x : Img) (h1 : x.code.length < 2 ^ 63) (h2 : x.jumps.length < 2 ^ 63) (h3 : x.data.length < 2 ^ 63) (h4 : x.names.length < 2 ^ 63) (hc : checkP x ≠ 0) : pureV E (om E) 17 false [imgV x] = some (.tuple [ii 0, ii (checkP x)]) := by
  apply pu_17
  have hE := ImageEncode_bad x h1 h2 h3 h4 hc
  simp (disch := omega) [if_pos, if_neg, iteK_pos, iteK_neg, Try.f17, hE]
theorem ImageBits_bad (x : Img) (h1 : x.code.length < 2 ^ 63) (h2 : x.jumps.length < 2 ^ 63) (h3 : x.data.length < 2 ^ 63) (h4 : x.names.length < 2 ^ 63) (hc : checkP x ≠ 0) : pureV E (om E) 18 false [imgV x] = some (.tuple [ii 0, ii (checkP x)]) := by
  apply pu_18
  have hC := fun lent => ImageCheck lent x h1 h2 h3 h4
  simp (disch := omega) [if_pos, if_neg, iteK_pos, iteK_neg, Try.f18, hC, hc]
/-- The least k from one on for which 2^k is enough. -/
def bitsP (r k : Nat) : Nat := if k < 16 then (if 2 ^ k < r then bitsP r (k + 1) else k) else k
termination_by 16 - k
theorem bitsP_spec (r k : Nat) (hk : k ≤ 16) (hr : r ≤ 65536) : k ≤ bitsP r k ∧ bitsP r k ≤ 16 ∧ r ≤ 2 ^ bitsP r k ∧ (bitsP r k = k ∨ 2 ^ (bitsP r k - 1) < r) := by
  rw [bitsP]
  by_cases h1 : k < 16
  · rw [if_pos h1]
    by_cases h2 : 2 ^ k < r
    · rw [if_pos h2]
      obtain ⟨a, b, c, d⟩ := bitsP_spec r (k + 1) (by omega) hr
      refine ⟨by omega, b, c, .inr ?_⟩
      rcases d with d | d
      · rw [d]; simpa using h2
      · exact d
    · rw [if_neg h2]
      exact ⟨Nat.le_refl _, hk, by omega, .inl rfl⟩
  · rw [if_neg h1]
    obtain rfl : k = 16 := by omega
    exact ⟨Nat.le_refl _, Nat.le_refl _, hr, .inl rfl⟩
termination_by 16 - k
set_option maxHeartbeats 4000000 in
theorem ImageBits_ok (x : Img) (hc : checkP x = 0) : pureV E (om E) 18 false [imgV x] = some (.tuple [ii (bitsP (x.data.length + x.zero.toNat + x.stack.toNat) 8), ii 0]) := by
  apply pu_18
  obtain ⟨c1, c2, c3, c4, c5, c6, c7⟩ := check_ok hc
  have hC := fun lent => ImageCheck lent x (by omega) (by omega) (by omega) (by omega)
  simp only [hc] at hC
  have hR := fun lent => room63 lent x.data.length x.zero x.stack (by omega)
  simp (disch := omega) [if_pos, if_neg, iteK_pos, iteK_neg, Try.f18, hC]
  obtain ⟨R, hRR⟩ : ∃ R, R = x.data.length + x.zero.toNat + x.stack.toNat := ⟨_, rfl⟩
  rw [← hRR] at c5 ⊢
  have hRi : (x.data.length : Int) + (x.zero.toNat : Int) + (x.stack.toNat : Int) = (R : Int) := by omega
  rw [hRi] at hR
  refine loop_use (dyn := []) (fun (k : Nat) => [imgV x, .pref 0 0 0 0, ii 0, ii 0, ii 0, ii k, imgV x, ii 0, ii 0, bb false, xx] ++ pois 14) (fun _ => chkH x) (fun k => 8 ≤ k ∧ k ≤ 16 ∧ bitsP R 8 = bitsP R k) (fun k => 16 - k) hint_18_0 (by kernel_rfl) ?_ 8 (by simp) (by simp [chkH])
  rintro k ⟨hk8, hk16, hb⟩ IH
  rw [lpB_eq]
  have hst : bitsP R k = if k < 16 then (if 2 ^ k < R then bitsP R (k + 1) else k) else k := by rw [bitsP]
  have hk9 : k = 8 ∨ k = 9 ∨ k = 10 ∨ k = 11 ∨ k = 12 ∨ k = 13 ∨ k = 14 ∨ k = 15 ∨ k = 16 := by omega
  rw [hst] at hb
  by_cases hlt : 2 ^ k < R
  · have h16 : k < 16 := by
      rcases Nat.lt_or_ge k 16 with h | h
      · exact h
      · obtain rfl : k = 16 := by omega
        simp only [Nat.reducePow] at hlt; omega
    rw [if_pos h16, if_pos hlt] at hb
    rcases hk9 with rfl | rfl | rfl | rfl | rfl | rfl | rfl | rfl | rfl
    all_goals simp only [Nat.reducePow] at hlt
    all_goals first | omega | skip
    all_goals simp (disch := omega) [if_pos, if_neg, iteK_pos, iteK_neg, hlt, hR]
    · exact IH 9 _ _ ⟨by omega, by omega, hb⟩ (by omega) (by simp [chkH])
    · exact IH 10 _ _ ⟨by omega, by omega, hb⟩ (by omega) (by simp [chkH])
    · exact IH 11 _ _ ⟨by omega, by omega, hb⟩ (by omega) (by simp [chkH])
    · exact IH 12 _ _ ⟨by omega, by omega, hb⟩ (by omega) (by simp [chkH])
    · exact IH 13 _ _ ⟨by omega, by omega, hb⟩ (by omega) (by simp [chkH])
    · exact IH 14 _ _ ⟨by omega, by omega, hb⟩ (by omega) (by simp [chkH])
    · exact IH 15 _ _ ⟨by omega, by omega, hb⟩ (by omega) (by simp [chkH])
    · exact IH 16 _ _ ⟨by omega, by omega, hb⟩ (by omega) (by simp [chkH])
  · have hb3 : bitsP R 8 = k := by
      rw [hb, if_neg hlt, ite_self]
    rcases hk9 with rfl | rfl | rfl | rfl | rfl | rfl | rfl | rfl | rfl
    all_goals simp only [Nat.reducePow] at hlt
    all_goals simp (disch := omega) [if_pos, if_neg, iteK_pos, iteK_neg, hlt, hR, hb3]
set_option maxHeartbeats 8000000 in
theorem ImageBack (x : Img) (h1 : x.code.length < 2 ^ 63) (h2 : x.jumps.length < 2 ^ 63) (h3 : x.data.length < 2 ^ 63) (h4 : x.names.length < 2 ^ 63) : pureV E (om E) 6 false [imgV x] = some (bb true) := by
  apply pu_6
  have hC := fun lent => ImageCheck lent x h1 h2 h3 h4
  by_cases hc : checkP x = 0
  · obtain ⟨c1, c2, c3, c4, c5, c6, c7⟩ := check_ok hc
    simp only [hc] at hC
    have hE := ImageEncode x hc
    have hS := ImageSize_ok x hc
    have hB := ImageBits_ok x hc
    have s := sizes hc
    have hl := encF_len x
    have hlen : (encP x).length = (encF x).length := sealP_length _ (by omega)
    have s1 := s.a; have s2 := s.b; have s3 := s.c; have s4 := s.d
    have hback := parse_enc hc
    have hP := Parse (encP x) (by omega)
    rw [hback] at hP
    have hSa := Same_self false x (by omega) (by omega) (by omega) (by omega)
    have hK := fun lent => Canonical_ok lent (encP x) (by rw [hback])
    rw [hback] at hK
    simp only [decide_true] at hK
    have hbs := bitsP_spec (x.data.length + x.zero.toNat + x.stack.toNat) 8 (by omega) c5
    obtain ⟨R, hRR⟩ : ∃ R, R = x.data.length + x.zero.toNat + x.stack.toNat := ⟨_, rfl⟩
    rw [← hRR] at hbs hB
    obtain ⟨k, hk⟩ : ∃ k, k = bitsP R 8 := ⟨_, rfl⟩
    rw [← hk] at hbs hB
    obtain ⟨b1, b2, b3, b4⟩ := hbs
    have hk9 : k = 8 ∨ k = 9 ∨ k = 10 ∨ k = 11 ∨ k = 12 ∨ k = 13 ∨ k = 14 ∨ k = 15 ∨ k = 16 := by omega
    have hRi : (x.data.length : Int) + (x.zero.toNat : Int) + (x.stack.toNat : Int) = (R : Int) := by omega
    have hmax : (encP x).length ≤ 1048576 := by omega
    rcases hk9 with rfl | rfl | rfl | rfl | rfl | rfl | rfl | rfl | rfl
    all_goals simp only [Nat.reducePow, Nat.reduceSub] at b3 b4
    all_goals simp (disch := omega) [if_pos, if_neg, iteK_pos, iteK_neg, Try.f6, lives, hC, hE, hS, hB, hP, hSa, hK, hmax]
    all_goals omega
  · have hE := ImageEncode_bad x h1 h2 h3 h4 hc
    have hS := ImageSize_bad x h1 h2 h3 h4 hc
    have hB := ImageBits_bad x h1 h2 h3 h4 hc
    simp (disch := omega) [if_pos, if_neg, iteK_pos, iteK_neg, Try.f6, lives, hC, hE, hS, hB, hc]
end Go.Proofs.Ytihmfdmojnfdpaa
end
