/-
  image.Parse.
  Plain facts: one byte turned is told by the sum.
  playpenkit.Pick, image.Seal, lives; the law ImageTurned.
-/
import Derived.Test.YtihmfdmojnfdpaaNb
import Derived.Test.YtihmfdmojnfdpaaNc
section
namespace Go.Proofs.Ytihmfdmojnfdpaa
open Go Go.Sim
set_option maxRecDepth 100000
set_option linter.unusedSimpArgs false
set_option linter.unusedVariables false

structure Img where
  code : List Instr
  jumps : List UInt32
  data : List UInt8
  zero : UInt32
  stack : UInt32
  names : List Export
abbrev imgV (x : Img) : V := .agg [lst eInstr x.code, ws x.jumps, bs x.data, w32 x.zero.toNat, w32 x.stack.toNat, lst eExport x.names]
def img0 : Img := ⟨[], [], [], 0, 0, []⟩
def segP (l : List UInt8) (i : Nat) : List UInt8 := (l.drop (spanI l i).place.toNat).take (spanI l i).len.toNat
def stackOk (n : UInt32) : Bool := decide (n.toNat % 4 = 0 ∧ 64 ≤ n.toNat ∧ n.toNat ≤ 32768)
noncomputable def parseP (l : List UInt8) : Img × Nat × Nat :=
  if (headP l).2 ≠ 0 then (img0, headP l)
  else if (decI (segP l 0) 0 0).2.2 ≠ 0 then (img0, (spanI l 0).place.toNat + (decI (segP l 0) 0 0).2.1, (decI (segP l 0) 0 0).2.2)
  else if (decI (segP l 0) 0 0).1.length ≠ (wordAt l 12).toNat then (img0, 12, 80)
  else if (segP l 1).length % 4 ≠ 0 ∨ 16384 < (wordsOf (segP l 1)).length then (img0, 28, 86)
  else if stackOk (wordAt l 52) = false then (img0, 52, 85)
  else if 65536 < (segP l 2).length + (wordAt l 48).toNat + (wordAt l 52).toNat then (img0, 48, 85)
  else if (expP (segP l 3) 0 []).2.2 ≠ 0 then (img0, (spanI l 3).place.toNat + (expP (segP l 3) 0 []).2.1, (expP (segP l 3) 0 []).2.2)
  else (⟨(decI (segP l 0) 0 0).1, wordsOf (segP l 1), segP l 2, wordAt l 48, wordAt l 52, (expP (segP l 3) 0 []).1⟩, 0, 0)
abbrev parV (x : Img × Nat × Nat) : V := .tuple [imgV x.1, ii x.2.1, ii x.2.2]
theorem part (l : List UInt8) (hl : l.length < 2 ^ 40) (hs : ∀ i, i < 4 → (spanI l i).stop ≤ l.length) (lent : Bool) (i : Int) (h0 : 0 ≤ i) (hi : i < 4) :
    pureV E (om E) 22 lent [.int .i64 i, .pcon [lst eU8 l] 0, .pcon [lst eSpan (spansP l)] 0] = some (bs (segP l i.toNat)) := by
  obtain ⟨i, rfl⟩ := Int.eq_ofNat_of_zero_le h0
  apply pu_22
  have hC := fun s (h : s.stop ≤ l.length) => Cut l s hl h
  have h4 : (spansP l)[i]? = some (spanI l i) := by
    have : i = 0 ∨ i = 1 ∨ i = 2 ∨ i = 3 := by omega
    rcases this with rfl | rfl | rfl | rfl <;> rfl
  have hl4 : (spansP l).length = 4 := rfl
  have hge : (spansP l)[i]'(by omega) = spanI l i := by
    rw [List.getElem?_eq_getElem (by omega)] at h4; exact Option.some.inj h4
  have hC' := hC _ (hs i (by omega))
  have hst := hs i (by omega)
  unfold Span.stop at hst
  by_cases hz : (spanI l i).len.toNat = 0
  · simp (disch := omega) [if_pos, if_neg, iteK_pos, iteK_neg, Try.f22, hl4, hge, hC', segP]
    rw [hz]; rfl
  · simp (disch := omega) [if_pos, if_neg, iteK_pos, iteK_neg, Try.f22, hl4, hge, hC', segP]
    exact res_lst eU8 (by simp; omega) rfl
theorem headP_ok {l : List UInt8} (h : (headP l).2 = 0) : 64 ≤ l.length ∧ l.length ≤ 1048576 ∧ (spanI l 0).stop ≤ l.length ∧ (spanI l 1).stop ≤ l.length ∧ (spanI l 2).stop ≤ l.length ∧ (spanI l 3).stop ≤ l.length := by
  unfold headP at h
  by_cases h1 : l.length < 64
  · simp [h1] at h
  by_cases h2 : 1048576 < l.length
  · simp [h1, h2] at h
  rw [if_neg h1, if_neg h2] at h
  repeat' split at h
  all_goals first | (simp at h; done) | omega
theorem decI_len (l : List UInt8) (a n : Nat) (hn : n ≤ 16384) : (decI l a n).1.length ≤ 16384 - n := by
  rw [decI]
  split
  · split
    · split
      · simp
      · rename_i i k _
        have := decI_len l (a + k) (n + 1) (by omega)
        simp only [List.length_cons]; omega
    · simp
  · simp
termination_by 16384 - n
theorem decI_at (l : List UInt8) (a n : Nat) : (decI l a n).2.1 ≤ l.length := by
  rw [decI]
  split
  · split
    · split
      · simp; omega
      · rename_i i k _
        exact decI_at l (a + k) (n + 1)
    · simp; omega
  · simp
termination_by 16384 - n
theorem expP_at (l : List UInt8) (a : Nat) (acc : List Export) : (expP l a acc).2.1 ≤ l.length := by
  rw [expP]
  split
  · split
    · simp; omega
    · split
      · exact expP_at l _ _
      · simp; omega
  · simp
termination_by l.length - a
theorem segP_len (l : List UInt8) (i : Nat) : (segP l i).length ≤ l.length := by simp [segP]; omega
set_option maxHeartbeats 2000000 in
theorem Parse_bad (lent) (l : List UInt8) (hl : l.length < 2 ^ 63) (h1 : (headP l).2 ≠ 0) : pureV E (om E) 8 lent [bs l] = some (parV (img0, headP l)) := by
  apply pu_8
  simp (disch := omega) [if_pos, if_neg, iteK_pos, iteK_neg, Try.f8, headed, h1, img0]
set_option maxHeartbeats 2000000 in
theorem Parse (l : List UInt8) (hl : l.length < 2 ^ 63) : pureV E (om E) 8 false [bs l] = some (parV (parseP l)) := by
  apply pu_8
  unfold parseP
  by_cases h1 : (headP l).2 = 0
  · obtain ⟨hlo, hhi, g0, g1, g2, g3⟩ := headP_ok h1
    replace hl : l.length < 2 ^ 40 := by omega
    have hSp : ∀ B r, callV E (om E) 21 [bs l] (B :: r) = some (.sref 0 B.length 0 4 4 (2, false), (B ++ [.row (cat eSpan (spansP l)) 4 2 true true]) :: r) := spansOf l hl (by omega)
    have hall : ∀ i, i < 4 → (spanI l i).stop ≤ l.length := by
      intro i hi
      have : i = 0 ∨ i = 1 ∨ i = 2 ∨ i = 3 := by omega
      rcases this with rfl | rfl | rfl | rfl <;> assumption
    have hp3 := part l hl hall
    have c0 : (cat eSpan (spansP l))[0]? = some (w32 (spanI l 0).place.toNat) := rfl
    have c6 : (cat eSpan (spansP l))[6]? = some (w32 (spanI l 3).place.toNat) := rfl
    have eS : V.scon (V.canonL (cutCells (cat eSpan (spansP l)) 0 4 2)) 0 4 false = lst eSpan (spansP l) := res_lst eSpan rfl rfl
    have q0 := segP_len l 0
    have q1 := segP_len l 1
    have q2 := segP_len l 2
    have q3 := segP_len l 3
    have hd := decI_len (segP l 0) 0 0 (by omega)
    have da := decI_at (segP l 0) 0 0
    have xa := expP_at (segP l 3) 0 []
    have p0 := (spanI l 0).place.toNat_lt
    have p3 := (spanI l 3).place.toNat_lt
    rw [if_neg (by simp [h1])]
    have hl4 : (spansP l).length = 4 := rfl
    have e0 : ∀ h, (spansP l)[0]'h = spanI l 0 := fun _ => rfl
    have e3 : ∀ h, (spansP l)[3]'h = spanI l 3 := fun _ => rfl
    clear g1 g2 g3 hall
    by_cases h2 : (decI (segP l 0) 0 0).2.2 = 0
    · rw [if_neg (by simp [h2])]
      by_cases h3 : (decI (segP l 0) 0 0).1.length = (wordAt l 12).toNat
      · rw [if_neg (by simp [h3])]
        by_cases h4 : (segP l 1).length % 4 = 0
        · have hw := All32 false (segP l 1) (by omega) h4
          by_cases h5 : 16384 < (wordsOf (segP l 1)).length
          · rw [if_pos (.inr h5)]
            simp (disch := omega) [if_pos, if_neg, iteK_pos, iteK_neg, Try.f8, headed, h1, hSp, hp3, eS, IsaDecode, decV, h2, h3, wordI, hw, h5, segments, img0]
            all_goals (rw [iteK_pos (by kernel_rfl)]; simp (disch := omega) [if_pos, if_neg, iteK_pos, iteK_neg, Try.f8, headed, h1, hSp, hp3, eS, IsaDecode, decV, h2, h3, wordI, hw, h5, segments, img0])
          · rw [if_neg (by omega)]
            have hS : ∀ lent, pureV E (om E) 28 lent [w32 (wordAt l 52).toNat] = some (bb (stackOk (wordAt l 52))) := fun lent => stackMay lent _
            by_cases h6 : stackOk (wordAt l 52) = true
            · rw [if_neg (by simp [h6])]
              have hR := fun lent => room lent (segP l 2).length (wordAt l 48) (wordAt l 52) (by omega)
              by_cases h7 : 65536 < (segP l 2).length + (wordAt l 48).toNat + (wordAt l 52).toNat
              · rw [if_pos h7]
                simp (disch := omega) [if_pos, if_neg, iteK_pos, iteK_neg, Try.f8, headed, h1, hSp, hp3, eS, IsaDecode, decV, h2, h3, wordI, hw, h5, hS, h6, hR, h7, img0]
                all_goals (rw [iteK_pos (by kernel_rfl)]; simp (disch := omega) [if_pos, if_neg, iteK_pos, iteK_neg, Try.f8, headed, h1, hSp, hp3, eS, IsaDecode, decV, h2, h3, wordI, hw, h5, hS, h6, hR, h7, img0])
              · rw [if_neg h7]
                have hE := fun lent => exports lent (segP l 3) (by omega)
                by_cases h8 : (expP (segP l 3) 0 []).2.2 = 0
                · rw [if_neg (by simp [h8])]
                  simp (disch := omega) [if_pos, if_neg, iteK_pos, iteK_neg, Try.f8, headed, h1, hSp, hp3, eS, IsaDecode, decV, h2, h3, wordI, hw, h5, hS, h6, hR, h7, hE, h8, img0]
                  all_goals (rw [iteK_pos (by kernel_rfl)]; simp (disch := omega) [if_pos, if_neg, iteK_pos, iteK_neg, Try.f8, headed, h1, hSp, hp3, eS, IsaDecode, decV, h2, h3, wordI, hw, h5, hS, h6, hR, h7, hE, h8, img0])
                · rw [if_pos h8]
                  simp (disch := omega) [if_pos, if_neg, iteK_pos, iteK_neg, Try.f8, headed, h1, hSp, hp3, eS, IsaDecode, decV, h2, h3, wordI, hw, h5, hS, h6, hR, h7, hE, h8, hl4, e3, c6, img0]
                  all_goals (rw [iteK_pos (by kernel_rfl)]; simp (disch := omega) [if_pos, if_neg, iteK_pos, iteK_neg, Try.f8, headed, h1, hSp, hp3, eS, IsaDecode, decV, h2, h3, wordI, hw, h5, hS, h6, hR, h7, hE, h8, hl4, e3, c6, img0])
                  all_goals (rw [iteK_pos (by kernel_rfl)]; simp (disch := omega) [if_pos, if_neg, iteK_pos, iteK_neg, Try.f8, headed, h1, hSp, hp3, eS, IsaDecode, decV, h2, h3, wordI, hw, h5, hS, h6, hR, h7, hE, h8, hl4, e3, c6, img0])
            · rw [if_pos (by simpa using h6)]
              simp (disch := omega) [if_pos, if_neg, iteK_pos, iteK_neg, Try.f8, headed, h1, hSp, hp3, eS, IsaDecode, decV, h2, h3, wordI, hw, h5, hS, h6, img0]
              all_goals (rw [iteK_pos (by kernel_rfl)]; simp (disch := omega) [if_pos, if_neg, iteK_pos, iteK_neg, Try.f8, headed, h1, hSp, hp3, eS, IsaDecode, decV, h2, h3, wordI, hw, h5, hS, h6, img0])
        · rw [if_pos (.inl h4)]
          have hw := All32no false (segP l 1) (by omega) h4
          simp (disch := omega) [if_pos, if_neg, iteK_pos, iteK_neg, Try.f8, headed, h1, hSp, hp3, eS, IsaDecode, decV, h2, h3, wordI, hw, segments, img0]
          all_goals (rw [iteK_pos (by kernel_rfl)]; simp (disch := omega) [if_pos, if_neg, iteK_pos, iteK_neg, Try.f8, headed, h1, hSp, hp3, eS, IsaDecode, decV, h2, h3, wordI, hw, segments, img0])
      · rw [if_pos h3]
        simp (disch := omega) [if_pos, if_neg, iteK_pos, iteK_neg, Try.f8, headed, h1, hSp, hp3, eS, IsaDecode, decV, h2, h3, wordI, img0]
    · rw [if_pos h2]
      simp (disch := omega) [if_pos, if_neg, iteK_pos, iteK_neg, Try.f8, headed, h1, hSp, hp3, eS, IsaDecode, decV, h2, hl4, e0, c0, img0]
      all_goals (rw [iteK_pos (by kernel_rfl)]; simp (disch := omega) [if_pos, if_neg, iteK_pos, iteK_neg, Try.f8, headed, h1, hSp, hp3, eS, IsaDecode, decV, h2, hl4, e0, c0, img0])
  · rw [if_pos h1]
    simp (disch := omega) [if_pos, if_neg, iteK_pos, iteK_neg, Try.f8, headed, h1, img0]
end Go.Proofs.Ytihmfdmojnfdpaa
end
section
namespace Go.Proofs.Ytihmfdmojnfdpaa
open Go Go.Sim

theorem word4_inj {a b c d a' b' c' d' : UInt8} (h : word4 a b c d = word4 a' b' c' d') : a = a' ∧ b = b' ∧ c = c' ∧ d = d' := by
  have h1 := word4_toNat a b c d
  have h2 := word4_toNat a' b' c' d'
  rw [h] at h1
  have := a.toNat_lt; have := b.toNat_lt; have := c.toNat_lt; have := d.toNat_lt
  have := a'.toNat_lt; have := b'.toNat_lt; have := c'.toNat_lt; have := d'.toNat_lt
  simp only [← UInt8.toNat_inj]
  omega
theorem word4_bytes (x : UInt32) : word4 (UInt8.ofNat (x.toNat % 256)) (UInt8.ofNat (x.toNat / 256 % 256)) (UInt8.ofNat (x.toNat / 65536 % 256)) (UInt8.ofNat (x.toNat / 16777216 % 256)) = x := by
  rw [← UInt32.toNat_inj, word4_toNat]
  have := x.toNat_lt
  simp only [UInt8.toNat_ofNat']
  omega
theorem word_with4 {l : List UInt8} {n : Nat} (x : UInt32) (h : n + 4 ≤ l.length) : wordAt (with4 l n x) n = x := by
  unfold wordAt
  have : (with4 l n x).drop n = bytes4 x ++ l.drop (n + 4) := by
    unfold with4
    rw [List.append_assoc, List.drop_append_of_le_length (by simp; omega), List.drop_of_length_le (by simp; omega), List.nil_append]
  rw [this]
  exact word4_bytes x
theorem word_set_lt {l : List UInt8} {n k : Nat} (x : UInt8) (h : k < n) : wordAt (l.set k x) n = wordAt l n := by
  unfold wordAt
  rw [List.drop_set_of_lt h]
theorem word_set_ge {l : List UInt8} {n k : Nat} (x : UInt8) (hl : n + 4 ≤ l.length) (h : n + 4 ≤ k) : wordAt (l.set k x) n = wordAt l n := by
  obtain ⟨a, b, c, d, r, hd⟩ := drop4 hl
  unfold wordAt
  rw [List.drop_set, if_neg (by omega), hd]
  obtain ⟨m, hm⟩ : ∃ m, k - n = m + 4 := ⟨k - n - 4, by omega⟩
  rw [hm]
  rfl
/-- In the word itself a turned byte is seen. -/
theorem word_set_in {l : List UInt8} {n k : Nat} {x : UInt8} (hl : n + 4 ≤ l.length) (h1 : n ≤ k) (h2 : k < n + 4) (hx : wordAt (l.set k x) n = wordAt l n) : l[k]? = some x := by
  obtain ⟨a, b, c, d, r, hd⟩ := drop4 hl
  have hk : l[k]? = (l.drop n)[k - n]? := by rw [List.getElem?_drop]; congr 1; omega
  unfold wordAt at hx
  rw [List.drop_set, if_neg (by omega), hd] at hx
  rw [hk, hd]
  have : k - n = 0 ∨ k - n = 1 ∨ k - n = 2 ∨ k - n = 3 := by omega
  rcases this with h | h | h | h <;> rw [h] at hx ⊢ <;> simp only [List.set_cons_zero, List.set_cons_succ] at hx <;> obtain ⟨g1, g2, g3, g4⟩ := word4_inj hx <;> simp_all
def tot (l : List UInt8) : Int := match l with | [] => 0 | x :: r => x.toNat + tot r
theorem sums_low (l : List UInt8) (s : Int × Int) (h : 0 ≤ s.1 ∧ s.1 < 65521) : (sums l s).1 = (s.1 + tot l) % 65521 := by
  induction l generalizing s with
  | nil => simp [sums, tot]; omega
  | cons x l ih =>
    have := ih (sumStep s x) (by simp only [sumStep]; omega)
    show (sums l (sumStep s x)).1 = _
    rw [this]
    simp only [sumStep, tot]
    omega
theorem tot_set (l : List UInt8) (k : Nat) (y : UInt8) (h : k < l.length) : tot (l.set k y) + (l[k]).toNat = tot l + y.toNat := by
  induction l generalizing k with
  | nil => simp at h
  | cons x l ih =>
    cases k with
    | zero => simp [tot]; omega
    | succ k =>
      have := ih k (by simpa using h)
      simp [tot]; omega
theorem adler_low {a b : List UInt8} (h : adler a = adler b) : (1 + tot a) % 65521 = (1 + tot b) % 65521 := by
  have h1 := adler_toNat a
  have h2 := adler_toNat b
  rw [h] at h1
  have g1 := sums_fits a (1, 0) (by simp)
  have g2 := sums_fits b (1, 0) (by simp)
  have k1 := sums_low a (1, 0) (by simp)
  have k2 := sums_low b (1, 0) (by simp)
  simp only at k1 k2
  omega
theorem head_sum {l : List UInt8} (h : (headP l).2 = 0) : 64 ≤ l.length ∧ wordAt (sealP l) 8 = wordAt l 8 := by
  unfold headP at h
  by_cases h1 : l.length < 64
  · simp [h1] at h
  by_cases h2 : 1048576 < l.length
  · simp [h1, h2] at h
  rw [if_neg h1, if_neg h2] at h
  by_cases h3 : l.take 4 ≠ [80, 69, 78, 33]
  · simp [h3] at h
  rw [if_neg h3] at h
  by_cases h4 : wordAt l 4 ≠ 1
  · simp [h4] at h
  rw [if_neg h4] at h
  by_cases h5 : wordAt (sealP l) 8 ≠ wordAt l 8
  · simp [h5] at h
  exact ⟨by omega, by simpa using h5⟩
theorem seal_word {l : List UInt8} (h : 12 ≤ l.length) : wordAt (sealP l) 8 = adler (with4 l 8 0) := by
  unfold sealP
  exact word_with4 _ (by rw [with4_length _ (by omega)]; omega)
/-- One byte turned into another one: the sum tells. -/
theorem turned {l : List UInt8} {k : Nat} {y : UInt8} (h : (headP l).2 = 0) (hk : k < l.length) (hy : y ≠ l[k]) : (headP (l.set k y)).2 ≠ 0 := by
  intro hc
  obtain ⟨h64, h1⟩ := head_sum h
  obtain ⟨_, h2⟩ := head_sum hc
  rw [seal_word (by omega)] at h1
  rw [seal_word (by simp; omega)] at h2
  by_cases hin : 8 ≤ k ∧ k < 12
  · have e : with4 (l.set k y) 8 0 = with4 l 8 0 := by
      unfold with4
      rw [List.take_set_of_le (by omega), List.drop_set_of_lt (by omega)]
    rw [e, h1] at h2
    have := word_set_in (by omega) hin.1 (by omega) h2.symm
    rw [List.getElem?_eq_getElem hk] at this
    exact hy (Option.some.inj this).symm
  · have e1 : wordAt (l.set k y) 8 = wordAt l 8 := by
      by_cases hlt : k < 8
      · exact word_set_lt y hlt
      · exact word_set_ge y (by omega) (by omega)
    rw [e1, ← h1] at h2
    have hl := with4_length (l := l) (n := 8) 0 (by omega)
    have e2 : with4 (l.set k y) 8 0 = (with4 l 8 0).set k y := by
      unfold with4
      by_cases hlt : k < 8
      · rw [List.take_set, List.drop_set_of_lt (by omega), List.append_assoc, List.append_assoc, List.set_append_left _ _ (by simp; omega)]
      · rw [List.take_set_of_le (by omega), List.drop_set, if_neg (by omega), List.set_append_right _ _ (by simp; omega)]
        congr 2
        simp
        omega
    have e3 : (with4 l 8 0)[k]'(by omega) = l[k] := by
      have : (with4 l 8 0)[k]? = l[k]? := by
        unfold with4
        by_cases hlt : k < 8
        · rw [List.append_assoc, List.getElem?_append_left (by simp; omega), List.getElem?_take_of_lt hlt]
        · rw [List.getElem?_append_right (by simp; omega), List.getElem?_drop]
          congr 1
          simp; omega
      rw [List.getElem?_eq_getElem (by omega), List.getElem?_eq_getElem hk] at this
      exact Option.some.inj this
    rw [e2] at h2
    have g := adler_low h2
    have t := tot_set (with4 l 8 0) k y (by omega)
    rw [e3] at t
    have b1 := y.toNat_lt
    have b2 := l[k].toNat_lt
    have : y.toNat = l[k].toNat := by omega
    exact hy (UInt8.toNat_inj.1 this)
theorem xor_ne (a b : UInt8) (h : b ≠ 0) : a ^^^ b ≠ a := by
  intro he
  apply h
  have : a ^^^ (a ^^^ b) = a ^^^ a := by rw [he]
  rw [← UInt8.xor_assoc, UInt8.xor_self, UInt8.zero_xor] at this
  exact this
end Go.Proofs.Ytihmfdmojnfdpaa
end
section
namespace Go.Proofs.Ytihmfdmojnfdpaa
open Go Go.Sim
set_option maxRecDepth 100000
set_option linter.unusedSimpArgs false
set_option linter.unusedVariables false

theorem lives_eval : pureV E (ev E 60) 7 false [] = some (bb true) := by kernel_rfl
theorem lives : pureV E (om E) 7 false [] = some (bb true) := pure_eval lives_eval
theorem Seal (lent) (l : List UInt8) (hl : l.length < 2 ^ 63) : pureV E (om E) 10 lent [bs l] = some (if 64 ≤ l.length ∧ l.length ≤ 1048576 then .tuple [bs (sealP l), ii 0] else .tuple [bs [], ii 80]) := by
  apply pu_10
  by_cases h1 : l.length < 64
  · rw [if_neg (by omega)]
    simp (disch := omega) [if_pos, if_neg, iteK_pos, iteK_neg, Try.f10, sized, h1]
  by_cases h2 : 1048576 < l.length
  · rw [if_neg (by omega)]
    simp (disch := omega) [if_pos, if_neg, iteK_pos, iteK_neg, Try.f10, sized, h1, h2]
  rw [if_pos (by omega)]
  replace hl : l.length < 2 ^ 40 := by omega
  have hS : ∀ B r, callV E (om E) 32 [bs l] (B :: r) = some (.sref 0 (B.length + 3) 0 l.length 0 (1, false), (B ++ [.row [] 0 1 true true, .row (cat eU8 (with4 l 8 0)) 0 1 true true, .row [] 0 1 true true, .row (cat eU8 (sealP l)) 0 1 true true]) :: r) := sealed l hl (by omega)
  have hSl := sealP_length l (by omega)
  have e9 : V.scon (V.canonL (cutCells (cat eU8 (sealP l)) 0 l.length 1)) 0 l.length false = bs (sealP l) := res_lst eU8 hSl.symm rfl
  simp (disch := omega) [if_pos, if_neg, iteK_pos, iteK_neg, Try.f10, sized, h1, h2, hS, e9]
theorem Pick (lent) (x : Int) (hx : -9223372036854775808 ≤ x ∧ x ≤ 9223372036854775807) (n : Nat) (hn : 1 ≤ n) (hn' : n < 2 ^ 60) : ∃ k : Nat, k < n ∧ pureV E (om E) 9 lent [.int .i64 x, ii n] = some (ii k) := by
  have g1 := Int.tmod_lt_of_pos x (b := n) (by omega)
  have g2 := Int.lt_tmod_of_pos x (b := n) (by omega)
  by_cases h : x.tmod n < 0
  · refine ⟨(x.tmod n + n).toNat, by omega, ?_⟩
    apply pu_9
    simp (disch := omega) [if_pos, if_neg, iteK_pos, iteK_neg, Try.f9, h]
    omega
  · refine ⟨(x.tmod n).toNat, by omega, ?_⟩
    apply pu_9
    simp (disch := omega) [if_pos, if_neg, iteK_pos, iteK_neg, Try.f9, h]
    omega
theorem cat_map8 (l : List UInt8) : cat eU8 l = l.map fun b => V.int .u8 (b.toNat : Int) := by
  induction l with
  | nil => rfl
  | cons x l ih => rw [List.map_cons, ← ih]; rfl
theorem set_xor (l : List UInt8) (k : Nat) (hk : k < l.length) (y : UInt8) : (cat eU8 l).set k (V.int .u8 (IntKind.u8.wrap (xorI 8 (l[k].toNat : Int) (y.toNat : Int)))) = cat eU8 (l.set k (l[k] ^^^ y)) := by
  have h : IntKind.u8.wrap (xorI 8 (l[k].toNat : Int) (y.toNat : Int)) = ((l[k] ^^^ y).toNat : Int) := by
    have hx : xorI 8 (l[k].toNat : Int) (y.toNat : Int) = ((l[k] ^^^ y).toNat : Int) := by
      unfold xorI
      rw [BitVec.ofInt_natCast, BitVec.ofInt_natCast, BitVec.toNat_xor, BitVec.toNat_ofNat, BitVec.toNat_ofNat, Nat.mod_eq_of_lt l[k].toNat_lt, Nat.mod_eq_of_lt y.toNat_lt, UInt8.toNat_xor]
    have := (l[k] ^^^ y).toNat_lt
    rw [hx, IntKind.wrap_u8]
    omega
  rw [h, cat_map8, cat_map8, List.map_set]
theorem parse_head {l : List UInt8} (h : (parseP l).2.2 = 0) : (headP l).2 = 0 := by
  by_cases h1 : (headP l).2 = 0
  · exact h1
  · unfold parseP at h
    rw [if_pos h1] at h
    exact h
theorem ImageTurned (l : List UInt8) (hl : l.length < 2 ^ 63) (x : Int) (hx : -9223372036854775808 ≤ x ∧ x ≤ 9223372036854775807) (by_ : UInt8) : pureV E (om E) 3 false [bs l, .int .i64 x, w8 by_.toNat] = some (bb true) := by
  apply pu_3
  have hP := Parse l hl
  by_cases h1 : (parseP l).2.2 = 0
  · by_cases hb : by_.toNat = 0
    · simp (disch := omega) [if_pos, if_neg, iteK_pos, iteK_neg, Try.f3, lives, hP, h1, hb]
    · have hh : (headP l).2 = 0 := parse_head h1
      obtain ⟨hlo, hhi, _⟩ := headP_ok hh
      simp (disch := omega) [if_pos, if_neg, iteK_pos, iteK_neg, Try.f3, lives, hP, h1, hb]
      generalize parseP l = p
      refine loop_use (dyn := []) (fun (a : Nat × Nat) => [bs l, .int .i64 x, w8 by_.toNat, xx, xx, xx, bb false, .pref 0 0 0 0, ii p.2.1, ii 0, .sref 0 1 0 a.1 a.2 (1, false), ii a.1, xx, xx, xx, xx, xx, xx, bb true, bb false, parV p,
          bs l, parV p, imgV p.1, ii p.2.1, ii 0, ii 0, bb false, bb false, w8 by_.toNat, bb false, bb false] ++ pois 50)
        (fun a => [[.row [lst eInstr p.1.code, ws p.1.jumps, bs p.1.data, w32 p.1.zero.toNat, w32 p.1.stack.toNat, lst eExport p.1.names] 0 6 true false, .row (cat eU8 (l.take a.1)) a.2 1 true true]]) (fun a => a.1 ≤ l.length) (fun a => l.length - a.1) hint_3_0 (by kernel_rfl) ?_ (0, 0) (by simp) (by simp)
      rintro ⟨i, e⟩ hi IH
      rw [lpB_eq]
      dsimp only at hi ⊢
      by_cases hlt : i < l.length
      · have hrow : cat eU8 ((l.take i).take i) ++ [V.int .u8 (l[i].toNat : Int)] = cat eU8 (l.take (i + 1)) := by
          rw [List.take_take, Nat.min_self, take_snoc hlt, cat_append]; rfl
        simp (disch := omega) [if_pos, if_neg, iteK_pos, iteK_neg, hlt, hrow]
        exact IH (i + 1, e + 1) _ _ (by simp only; omega) (by simp only; omega) (by simp)
      · obtain rfl : i = l.length := by omega
        obtain ⟨k, hk, hPk⟩ := Pick false x hx l.length (by omega) (by omega)
        have hck : (cat eU8 l)[k]? = some (.int .u8 (l[k].toNat : Int)) := by
          rw [cat_map8, List.getElem?_map, List.getElem?_eq_getElem hk]; rfl
        have hset := set_xor l k hk by_
        have hne : by_ ≠ 0 := fun h => hb (by rw [h]; rfl)
        have hbad := turned hh hk (xor_ne l[k] by_ hne)
        obtain ⟨c, hc⟩ : ∃ c, c = l.set k (l[k] ^^^ by_) := ⟨_, rfl⟩
        have hcl : c.length = l.length := by rw [hc]; simp
        rw [← hc] at hset hbad
        have e10 : V.scon (V.canonL (cutCells (cat eU8 c) 0 l.length 1)) 0 l.length false = bs c := res_lst eU8 hcl.symm rfl
        have hPc := Parse_bad true c (by omega) hbad
        have hSc := Seal true c (by omega)
        rw [if_pos (by omega)] at hSc
        have hsl := sealP_length c (by omega)
        simp (disch := omega) [if_pos, if_neg, iteK_pos, iteK_neg, hlt, hPk, hck, hset, e10, hPc, hSc, hbad, hsl, hcl]
  · simp (disch := omega) [if_pos, if_neg, iteK_pos, iteK_neg, Try.f3, lives, hP, h1]
end Go.Proofs.Ytihmfdmojnfdpaa
end
