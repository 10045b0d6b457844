/-
 image.Parse.
-/
import Derived.Test.YthiciofacaeddaaGreatIa
import Derived.Test.YthiciofacaeddaaGreatIb
section
namespace Go.Proofs.YthiciofacaeddaaGreat
open Go Go.Sim
set_option maxRecDepth 100000
set_option linter.unusedSimpArgs false
set_option linter.unusedVariables false

structure Img where
 code : List Instr
 jumps : List UInt32
 data : List UInt8
 zero : UInt32
 stack : UInt32
 names : List Export
abbrev imgV (x : Img) : V := .agg [lst eInstr x.code, ws x.jumps, bs x.data, w32 x.zero.toNat, w32 x.stack.toNat, lst eExport x.names]
def img0 : Img := ⟨[], [], [], 0, 0, []⟩
def segP (l : List UInt8) (i : Nat) : List UInt8 := (l.drop (spanI l i).place.toNat).take (spanI l i).len.toNat
def stackOk (n : UInt32) : Bool := decide (n.toNat % 4 = 0 ∧ 64 ≤ n.toNat ∧ n.toNat ≤ 32768)
noncomputable def parseP (l : List UInt8) : Img × Nat × Nat :=
 if (headP l).2 ≠ 0 then (img0, headP l)
 else if (decI (segP l 0) 0 0).2.2 ≠ 0 then (img0, (spanI l 0).place.toNat + (decI (segP l 0) 0 0).2.1, (decI (segP l 0) 0 0).2.2)
 else if (decI (segP l 0) 0 0).1.length ≠ (wordAt l 12).toNat then (img0, 12, 80)
 else if (segP l 1).length % 4 ≠ 0 ∨ 16384 < (wordsOf (segP l 1)).length then (img0, 28, 86)
 else if stackOk (wordAt l 52) = false then (img0, 52, 85)
 else if 65536 < (segP l 2).length + (wordAt l 48).toNat + (wordAt l 52).toNat then (img0, 48, 85)
 else if (expP (segP l 3) 0 []).2.2 ≠ 0 then (img0, (spanI l 3).place.toNat + (expP (segP l 3) 0 []).2.1, (expP (segP l 3) 0 []).2.2)
 else (⟨(decI (segP l 0) 0 0).1, wordsOf (segP l 1), segP l 2, wordAt l 48, wordAt l 52, (expP (segP l 3) 0 []).1⟩, 0, 0)
abbrev parV (x : Img × Nat × Nat) : V := .tuple [imgV x.1, ii x.2.1, ii x.2.2]
theorem part (l : List UInt8) (hl : l.length < 2 ^ 40) (hs : ∀ i, i < 4 → (spanI l i).stop ≤ l.length) (lent : Bool) (i : Int) (h0 : 0 ≤ i) (hi : i < 4) :
  pureV E (om E) 85 lent [.int .i64 i, .pcon [lst eU8 l] 0, .pcon [lst eSpan (spansP l)] 0] = some (bs (segP l i.toNat)) := by
 obtain ⟨i, rfl⟩ := Int.eq_ofNat_of_zero_le h0
 apply pu_85
 have hC := fun s (h : s.stop ≤ l.length) => Cut l s hl h
 have h4 : (spansP l)[i]? = some (spanI l i) := by
  have : i = 0 ∨ i = 1 ∨ i = 2 ∨ i = 3 := by omega
  rcases this with rfl | rfl | rfl | rfl <;> rfl
 have hl4 : (spansP l).length = 4 := rfl
 have hge : (spansP l)[i]'(by omega) = spanI l i := by
  rw [List.getElem?_eq_getElem (by omega)] at h4; exact Option.some.inj h4
 have hC' := hC _ (hs i (by omega))
 have hst := hs i (by omega)
 unfold Span.stop at hst
 by_cases hz : (spanI l i).len.toNat = 0
 ·simp (disch := omega) [if_pos, if_neg, iteK_pos, iteK_neg, Tryz.f85, hl4, hge, hC', segP]
  rw [hz]; rfl
 ·simp (disch := omega) [if_pos, if_neg, iteK_pos, iteK_neg, Tryz.f85, hl4, hge, hC', segP]
  exact res_lst eU8 (by simp; omega) rfl
theorem headP_ok {l : List UInt8} (h : (headP l).2 = 0) : 64 ≤ l.length ∧ l.length ≤ 1048576 ∧ (spanI l 0).stop ≤ l.length ∧ (spanI l 1).stop ≤ l.length ∧ (spanI l 2).stop ≤ l.length ∧ (spanI l 3).stop ≤ l.length := by
 unfold headP at h
 by_cases h1 : l.length < 64
 ·simp [h1] at h
 by_cases h2 : 1048576 < l.length
 ·simp [h1, h2] at h
 rw [if_neg h1, if_neg h2] at h
 repeat' split at h
 all_goals first | (simp at h; done) | omega
theorem decI_len (l : List UInt8) (a n : Nat) (hn : n ≤ 16384) : (decI l a n).1.length ≤ 16384 - n := by
 rw [decI]
 split
 ·split
  ·split
   ·simp
   ·rename_i i k _
    have := decI_len l (a + k) (n + 1) (by omega)
    simp only [List.length_cons]; omega
  ·simp
 ·simp
termination_by 16384 - n
theorem decI_at (l : List UInt8) (a n : Nat) : (decI l a n).2.1 ≤ l.length := by
 rw [decI]
 split
 ·split
  ·split
   ·simp; omega
   ·rename_i i k _
    exact decI_at l (a + k) (n + 1)
  ·simp; omega
 ·simp
termination_by 16384 - n
theorem expP_at (l : List UInt8) (a : Nat) (acc : List Export) : (expP l a acc).2.1 ≤ l.length := by
 rw [expP]
 split
 ·split
  ·simp; omega
  ·split
   ·exact expP_at l _ _
   ·simp; omega
 ·simp
termination_by l.length - a
theorem segP_len (l : List UInt8) (i : Nat) : (segP l i).length ≤ l.length := by simp [segP]; omega
set_option maxHeartbeats 2000000 in
theorem Parse (l : List UInt8) (hl : l.length < 2 ^ 63) : pureV E (om E) 52 false [bs l] = some (parV (parseP l)) := by
 apply pu_52
 unfold parseP
 by_cases h1 : (headP l).2 = 0
 ·obtain ⟨hlo, hhi, g0, g1, g2, g3⟩ := headP_ok h1
  replace hl : l.length < 2 ^ 40 := by omega
  have hSp : ∀ B r, callV E (om E) 84 [bs l] (B :: r) = some (.sref 0 B.length 0 4 4 (2, false), (B ++ [.row (cat eSpan (spansP l)) 4 2 true true]) :: r) := spansOf l hl (by omega)
  have hall : ∀ i, i < 4 → (spanI l i).stop ≤ l.length := by
   intro i hi
   have : i = 0 ∨ i = 1 ∨ i = 2 ∨ i = 3 := by omega
   rcases this with rfl | rfl | rfl | rfl <;> assumption
  have hp3 := part l hl hall
  have c0 : (cat eSpan (spansP l))[0]? = some (w32 (spanI l 0).place.toNat) := rfl
  have c6 : (cat eSpan (spansP l))[6]? = some (w32 (spanI l 3).place.toNat) := rfl
  have eS : V.scon (V.canonL (cutCells (cat eSpan (spansP l)) 0 4 2)) 0 4 false = lst eSpan (spansP l) := res_lst eSpan rfl rfl
  have q0 := segP_len l 0
  have q1 := segP_len l 1
  have q2 := segP_len l 2
  have q3 := segP_len l 3
  have hd := decI_len (segP l 0) 0 0 (by omega)
  have da := decI_at (segP l 0) 0 0
  have xa := expP_at (segP l 3) 0 []
  have p0 := (spanI l 0).place.toNat_lt
  have p3 := (spanI l 3).place.toNat_lt
  rw [if_neg (by simp [h1])]
  have hl4 : (spansP l).length = 4 := rfl
  have e0 : ∀ h, (spansP l)[0]'h = spanI l 0 := fun _ => rfl
  have e3 : ∀ h, (spansP l)[3]'h = spanI l 3 := fun _ => rfl
  clear g1 g2 g3 hall
  by_cases h2 : (decI (segP l 0) 0 0).2.2 = 0
  ·rw [if_neg (by simp [h2])]
   by_cases h3 : (decI (segP l 0) 0 0).1.length = (wordAt l 12).toNat
   ·rw [if_neg (by simp [h3])]
    by_cases h4 : (segP l 1).length % 4 = 0
    ·have hw := All32 false (segP l 1) (by omega) h4
     by_cases h5 : 16384 < (wordsOf (segP l 1)).length
     ·rw [if_pos (.inr h5)]
      simp (disch := omega) [if_pos, if_neg, iteK_pos, iteK_neg, Tryz.f52, headed, h1, hSp, hp3, eS, IsaDecode, decV, h2, h3, wordI, hw, h5, segments, img0]
      all_goals (rw [iteK_pos (by kernel_rfl)]; simp (disch := omega) [if_pos, if_neg, iteK_pos, iteK_neg, Tryz.f52, headed, h1, hSp, hp3, eS, IsaDecode, decV, h2, h3, wordI, hw, h5, segments, img0])
     ·rw [if_neg (by omega)]
      have hS : ∀ lent, pureV E (om E) 91 lent [w32 (wordAt l 52).toNat] = some (bb (stackOk (wordAt l 52))) := fun lent => stackMay lent _
      by_cases h6 : stackOk (wordAt l 52) = true
      ·rw [if_neg (by simp [h6])]
       have hR := fun lent => room lent (segP l 2).length (wordAt l 48) (wordAt l 52) (by omega)
       by_cases h7 : 65536 < (segP l 2).length + (wordAt l 48).toNat + (wordAt l 52).toNat
       ·rw [if_pos h7]
        simp (disch := omega) [if_pos, if_neg, iteK_pos, iteK_neg, Tryz.f52, headed, h1, hSp, hp3, eS, IsaDecode, decV, h2, h3, wordI, hw, h5, hS, h6, hR, h7, img0]
        all_goals (rw [iteK_pos (by kernel_rfl)]; simp (disch := omega) [if_pos, if_neg, iteK_pos, iteK_neg, Tryz.f52, headed, h1, hSp, hp3, eS, IsaDecode, decV, h2, h3, wordI, hw, h5, hS, h6, hR, h7, img0])
       ·rw [if_neg h7]
        have hE := fun lent => exports lent (segP l 3) (by omega)
        by_cases h8 : (expP (segP l 3) 0 []).2.2 = 0
        ·rw [if_neg (by simp [h8])]
         simp (disch := omega) [if_pos, if_neg, iteK_pos, iteK_neg, Tryz.f52, headed, h1, hSp, hp3, eS, IsaDecode, decV, h2, h3, wordI, hw, h5, hS, h6, hR, h7, hE, h8, img0]
         all_goals (rw [iteK_pos (by kernel_rfl)]; simp (disch := omega) [if_pos, if_neg, iteK_pos, iteK_neg, Tryz.f52, headed, h1, hSp, hp3, eS, IsaDecode, decV, h2, h3, wordI, hw, h5, hS, h6, hR, h7, hE, h8, img0])
        ·rw [if_pos h8]
         simp (disch := omega) [if_pos, if_neg, iteK_pos, iteK_neg, Tryz.f52, headed, h1, hSp, hp3, eS, IsaDecode, decV, h2, h3, wordI, hw, h5, hS, h6, hR, h7, hE, h8, hl4, e3, c6, img0]
         all_goals (rw [iteK_pos (by kernel_rfl)]; simp (disch := omega) [if_pos, if_neg, iteK_pos, iteK_neg, Tryz.f52, headed, h1, hSp, hp3, eS, IsaDecode, decV, h2, h3, wordI, hw, h5, hS, h6, hR, h7, hE, h8, hl4, e3, c6, img0])
         all_goals (rw [iteK_pos (by kernel_rfl)]; simp (disch := omega) [if_pos, if_neg, iteK_pos, iteK_neg, Tryz.f52, headed, h1, hSp, hp3, eS, IsaDecode, decV, h2, h3, wordI, hw, h5, hS, h6, hR, h7, hE, h8, hl4, e3, c6, img0])
      ·rw [if_pos (by simpa using h6)]
       simp (disch := omega) [if_pos, if_neg, iteK_pos, iteK_neg, Tryz.f52, headed, h1, hSp, hp3, eS, IsaDecode, decV, h2, h3, wordI, hw, h5, hS, h6, img0]
       all_goals (rw [iteK_pos (by kernel_rfl)]; simp (disch := omega) [if_pos, if_neg, iteK_pos, iteK_neg, Tryz.f52, headed, h1, hSp, hp3, eS, IsaDecode, decV, h2, h3, wordI, hw, h5, hS, h6, img0])
    ·rw [if_pos (.inl h4)]
     have hw := All32no false (segP l 1) (by omega) h4
     simp (disch := omega) [if_pos, if_neg, iteK_pos, iteK_neg, Tryz.f52, headed, h1, hSp, hp3, eS, IsaDecode, decV, h2, h3, wordI, hw, segments, img0]
     all_goals (rw [iteK_pos (by kernel_rfl)]; simp (disch := omega) [if_pos, if_neg, iteK_pos, iteK_neg, Tryz.f52, headed, h1, hSp, hp3, eS, IsaDecode, decV, h2, h3, wordI, hw, segments, img0])
   ·rw [if_pos h3]
    simp (disch := omega) [if_pos, if_neg, iteK_pos, iteK_neg, Tryz.f52, headed, h1, hSp, hp3, eS, IsaDecode, decV, h2, h3, wordI, img0]
  ·rw [if_pos h2]
   simp (disch := omega) [if_pos, if_neg, iteK_pos, iteK_neg, Tryz.f52, headed, h1, hSp, hp3, eS, IsaDecode, decV, h2, hl4, e0, c0, img0]
   all_goals (rw [iteK_pos (by kernel_rfl)]; simp (disch := omega) [if_pos, if_neg, iteK_pos, iteK_neg, Tryz.f52, headed, h1, hSp, hp3, eS, IsaDecode, decV, h2, hl4, e0, c0, img0])
 ·rw [if_pos h1]
  simp (disch := omega) [if_pos, if_neg, iteK_pos, iteK_neg, Tryz.f52, headed, h1, img0]
end Go.Proofs.YthiciofacaeddaaGreat
end
