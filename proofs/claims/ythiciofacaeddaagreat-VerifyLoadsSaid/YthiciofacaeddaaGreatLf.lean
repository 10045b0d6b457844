/-
 The document's Parse: what image.Parse gives.
 The law VerifyLoads, walked.
-/
import Derived.Test.YthiciofacaeddaaGreatRc
import Derived.Test.YthiciofacaeddaaGreatRb
import Derived.Test.YthiciofacaeddaaGreatId
import Derived.Test.YthiciofacaeddaaGreatLd
import Derived.Test.YthiciofacaeddaaGreatIf
section
namespace Go.Proofs.YthiciofacaeddaaGreat
open Go Go.Sim
set_option maxRecDepth 100000
set_option maxHeartbeats 0
set_option linter.unusedSimpArgs false
set_option linter.unusedVariables false

theorem word_magic {l : List UInt8} (h : 64 ≤ l.length) : l.take 4 = [80, 69, 78, 33] ↔ (wordAt l 0).toNat = 558777680 := by
 obtain ⟨a, b, c, d, r, hd⟩ := drop4 (l := l) (n := 0) (by omega)
 rw [List.drop_zero] at hd
 subst hd
 have hw : wordAt (a :: b :: c :: d :: r) 0 = word4 a b c d := by simp [wordAt]
 rw [hw, word4_toNat]
 have := a.toNat_lt; have := b.toNat_lt; have := c.toNat_lt; have := d.toNat_lt
 simp only [List.take_succ_cons, List.take_zero, List.cons.injEq, and_true, ← UInt8.toNat_inj]
 constructor
 ·rintro ⟨h1, h2, h3, h4⟩
  simp only [UInt8.reduceToNat] at h1 h2 h3 h4
  omega
 ·intro h
  simp only [UInt8.reduceToNat]
  omega
theorem headP_eq (l : List UInt8) : headP l = if (head8 l).2 ≠ 0 then head8 l else spans8 l.length (spansP l) := by
 unfold headP head8
 by_cases h1 : l.length < 64
 ·simp [h1]
 by_cases h2 : 1048576 < l.length
 ·simp [h1, h2]
 simp only [h1, h2, if_false]
 have hm := word_magic (l := l) (by omega)
 have hs := seal_word (l := l) (by omega)
 rw [hs]
 simp only [ne_eq, hm, ← UInt32.toNat_inj, UInt32.reduceToNat]
 by_cases h3 : (wordAt l 0).toNat = 558777680
 ·by_cases h4 : (wordAt l 4).toNat = 1
  ·by_cases h5 : (wordAt l 8).toNat = (adler (with4 l 8 0)).toNat
   ·by_cases h6 : (wordAt l 56).toNat = 0
    ·by_cases h7 : (wordAt l 60).toNat = 0
     ·simp only [h3, h4, h5, h6, h7, not_true, if_false, not_false_eq_true]
      rfl
     ·simp only [h3, h4, h5, h6, h7, not_true, if_false, not_false_eq_true, if_true]
      rfl
    ·simp only [h3, h4, h5, h6, not_true, if_false, not_false_eq_true, if_true]
     rfl
   ·have h5' : ¬ (adler (with4 l 8 0)).toNat = (wordAt l 8).toNat := fun h => h5 h.symm
    simp only [h3, h4, h5, h5', not_true, if_false, not_false_eq_true, if_true]
    rfl
  ·simp only [h3, h4, not_true, if_false, not_false_eq_true, if_true]
   rfl
 ·simp only [h3, not_true, if_false, not_false_eq_true, if_true]
  rfl
theorem spans8_ok {l : List UInt8} (h : (headP l).2 = 0) : (head8 l).2 = 0 ∧ (spans8 l.length (spansP l)).2 = 0 := by
 rw [headP_eq] at h
 by_cases h1 : (head8 l).2 = 0
 ·rw [if_neg (by simp [h1])] at h
  exact ⟨h1, h⟩
 ·rw [if_pos h1] at h
  exact absurd h h1
theorem head8_len {l : List UInt8} (h : (head8 l).2 = 0) : 64 ≤ l.length ∧ l.length ≤ 1048576 := by
 unfold head8 at h
 by_cases h1 : l.length < 64
 ·simp [h1] at h
 by_cases h2 : 1048576 < l.length
 ·simp [h1, h2] at h
 omega
theorem wordsOf_get : ∀ (n : Nat) (l : List UInt8), n * 4 + 4 ≤ l.length → (wordsOf l)[n]? = some (wordAt l (n * 4))
 | 0, l, h => by
  obtain ⟨a, b, c, d, r, hd⟩ := drop4 (l := l) (n := 0) (by omega)
  rw [List.drop_zero] at hd
  subst hd
  simp [wordsOf, wordAt]
 | n + 1, l, h => by
  obtain ⟨a, b, c, d, r, hd⟩ := drop4 (l := l) (n := 0) (by omega)
  rw [List.drop_zero] at hd
  subst hd
  have := wordsOf_get n r (by simp at h; omega)
  simp only [wordsOf, List.getElem?_cons_succ]
  rw [this]
  unfold wordAt
  rw [show (n + 1) * 4 = n * 4 + 4 by omega]
  simp
theorem wordsOf_len4 : ∀ l : List UInt8, (wordsOf l).length = l.length / 4
 | a :: b :: c :: d :: r => by simp only [wordsOf, List.length_cons, wordsOf_len4 r]; omega
 | [] => by simp [wordsOf]
 | [_] => by simp [wordsOf]
 | [_, _] => by simp [wordsOf]
 | [_, _, _] => by simp [wordsOf]
theorem expP_err (l : List UInt8) (a : Nat) (acc : List Export) : (expP l a acc).2.2 = 0 ∨ (expP l a acc).2.2 = 87 := by
 rw [expP]
 split
 ·split
  ·simp
  ·split
   ·exact expP_err l _ _
   ·simp
 ·simp
termination_by l.length - a
theorem RParse_bad (lent) (l : List UInt8) (hl : l.length < 2 ^ 62) (h1 : (headP l).2 ≠ 0) : pureV E (om E) 53 lent [bs l] = some (parV (img0, headP l)) := by
 have hH := fun lent => RHead lent l hl
 apply pu_53
 rw [headP_eq] at h1 ⊢
 by_cases h2 : (head8 l).2 = 0
 ·rw [if_neg (by simp [h2])] at h1 ⊢
  obtain ⟨hlo, hhi⟩ := head8_len h2
  have hS := fun lent => RSegments lent l hlo hhi
  have hSp : ∀ lent, pureV E (om E) 96 lent [bs l, lst eSpan (spansP l)] = some (headV (spans8 l.length (spansP l))) := fun lent => RSpans lent l (spanI l 0) (spanI l 1) (spanI l 2) (spanI l 3) hhi
  generalize head8 l = H at *
  generalize spans8 l.length (spansP l) = H2 at *
  generalize spansP l = SP at *
  obtain ⟨a, e⟩ := H
  obtain ⟨a2, e2⟩ := H2
  dsimp only at h1 h2
  subst h2
  simp (disch := omega) [if_pos, if_neg, iteK_pos, iteK_neg, Tryz.f53, hH, hS, hSp, h1, img0]
 ·rw [if_pos h2]
  generalize head8 l = H at *
  obtain ⟨a, e⟩ := H
  dsimp only at h2
  simp (disch := omega) [if_pos, if_neg, iteK_pos, iteK_neg, Tryz.f53, hH, h2, img0]
theorem RParse (l : List UInt8) (hl : l.length < 2 ^ 62) : pureV E (om E) 53 false [bs l] = some (parV (parseP l)) := by
 by_cases h1 : (headP l).2 = 0
 ·obtain ⟨R, hR⟩ : ∃ R, R = parseP l := ⟨_, rfl⟩
  rw [← hR]
  unfold parseP at hR
  rw [if_neg (by simp [h1])] at hR
  obtain ⟨hlo, hhi, g0, g1, g2, g3⟩ := headP_ok h1
  obtain ⟨k1, k2⟩ := spans8_ok h1
  have hH := fun lent => RHead lent l hl
  have hS := fun lent => RSegments lent l hlo hhi
  have hSp : ∀ lent, pureV E (om E) 96 lent [bs l, lst eSpan (spansP l)] = some (headV (spans8 l.length (spansP l))) := fun lent => RSpans lent l (spanI l 0) (spanI l 1) (spanI l 2) (spanI l 3) hhi
  replace hl : l.length < 2 ^ 40 := by omega
  have c0 : ∀ lent, pureV E (om E) 97 lent [bs l, spv (spanI l 0)] = some (.tuple [bs (segP l 0), ii 0]) := fun lent => RCut lent l _ hl g0
  have c1 : ∀ lent, pureV E (om E) 97 lent [bs l, spv (spanI l 1)] = some (.tuple [bs (segP l 1), ii 0]) := fun lent => RCut lent l _ hl g1
  have c2 : ∀ lent, pureV E (om E) 97 lent [bs l, spv (spanI l 2)] = some (.tuple [bs (segP l 2), ii 0]) := fun lent => RCut lent l _ hl g2
  have c3 : ∀ lent, pureV E (om E) 97 lent [bs l, spv (spanI l 3)] = some (.tuple [bs (segP l 3), ii 0]) := fun lent => RCut lent l _ hl g3
  have q0 := segP_len l 0
  have q1 := segP_len l 1
  have q2 := segP_len l 2
  have q3 := segP_len l 3
  have a12 : ∀ lent, pureV E (om E) 99 lent [bs l, ii 12] = some (w32 (wordAt l 12).toNat) := fun lent => RAt08 lent l 12 hl (by omega)
  have a48 : ∀ lent, pureV E (om E) 99 lent [bs l, ii 48] = some (w32 (wordAt l 48).toNat) := fun lent => RAt08 lent l 48 hl (by omega)
  have a52 : ∀ lent, pureV E (om E) 99 lent [bs l, ii 52] = some (w32 (wordAt l 52).toNat) := fun lent => RAt08 lent l 52 hl (by omega)
  have hD := RDecode (segP l 0) (by omega)
  have hd := decI_len (segP l 0) 0 0 (by omega)
  have da := decI_at (segP l 0) 0 0
  have xa := expP_at (segP l 3) 0 []
  have xe := expP_err (segP l 3) 0 []
  have p0 := (spanI l 0).place.toNat_lt
  have p3 := (spanI l 3).place.toNat_lt
  have hE := fun lent => RExports lent (segP l 3) (spanI l 3).place.toNat (by omega) (by omega)
  have hSt := fun lent => RStacks lent (wordAt l 52)
  have u12 := (wordAt l 12).toNat_lt
  have u48 := (wordAt l 48).toNat_lt
  have u52 := (wordAt l 52).toNat_lt
  have hAt := fun lent n (h : n + 4 ≤ (segP l 1).length) => RAt08 lent (segP l 1) n (by omega) h
  have hWl := wordsOf_len4 (segP l 1)
  have hWg := fun n h => wordsOf_get n (segP l 1) h
  have hSP : spansP l = [spanI l 0, spanI l 1, spanI l 2, spanI l 3] := rfl
  rw [hSP] at hSp hS k2
  clear g0 g1 g2 g3 h1
  generalize spans8 l.length [spanI l 0, spanI l 1, spanI l 2, spanI l 3] = SP at *
  obtain ⟨sa, se⟩ := SP
  dsimp only at k2
  subst k2
  generalize head8 l = H at *
  obtain ⟨ha, he⟩ := H
  dsimp only at k1
  subst k1
  have e4 : lst eSpan [spanI l 0, spanI l 1, spanI l 2, spanI l 3] = .scon [w32 (spanI l 0).place.toNat, w32 (spanI l 0).len.toNat, w32 (spanI l 1).place.toNat, w32 (spanI l 1).len.toNat, w32 (spanI l 2).place.toNat, w32 (spanI l 2).len.toNat, w32 (spanI l 3).place.toNat, w32 (spanI l 3).len.toNat] 0 4 false := rfl
  rw [e4] at hSp hS
  generalize spanI l 0 = s0 at *
  generalize spanI l 1 = s1 at *
  generalize spanI l 2 = s2 at *
  generalize spanI l 3 = s3 at *
  generalize segP l 0 = b0 at *
  generalize segP l 1 = b1 at *
  generalize segP l 2 = b2 at *
  generalize segP l 3 = b3 at *
  generalize wordAt l 12 = w12 at *
  generalize wordAt l 48 = w48 at *
  generalize wordAt l 52 = w52 at *
  have hE' : ∀ lent, pureV E (om E) 102 lent [bs b3, .int .i64 s3.place.toNat] = some (expsR (expP b3 0 []) s3.place.toNat) := hE
  clear hE
  generalize decI b0 0 0 = D at *
  generalize expP b3 0 [] = N at *
  obtain ⟨code, dat, de⟩ := D
  obtain ⟨nl, nat, ne⟩ := N
  dsimp only at hd da xa xe ⊢
  have hAt4 : ∀ lent (n : Nat), 4 * n + 4 ≤ b1.length → pureV E (om E) 99 lent [bs b1, .int .i64 (4 * (n : Int))] = some (w32 (wordAt b1 (4 * n)).toNat) := fun lent n h => by
   have := hAt lent (4 * n) h
   rw [show ((4 * n : Nat) : Int) = 4 * (n : Int) by omega] at this
   exact this
  clear hAt
  have hWn : ∀ n, 4 * n + 4 ≤ b1.length → ∀ h, (wordsOf b1)[n]'h = wordAt b1 (4 * n) := fun n h h' => by
   have := hWg n (by omega)
   rw [List.getElem?_eq_getElem h', Nat.mul_comm] at this
   exact Option.some.inj this
  clear hWg
  apply pu_53
  simp (disch := omega) [if_pos, if_neg, iteK_pos, iteK_neg, Tryz.f53, hH, hS, hSp]
  iterate 4
   apply loop_next (dyn := []) hint_53_0 (by kernel_rfl)
   simp (disch := omega) [if_pos, if_neg, iteK_pos, iteK_neg]
   rw [lpB_eq]
   simp (disch := omega) [if_pos, if_neg, iteK_pos, iteK_neg, c0, c1, c2, c3]
  apply loop_next (dyn := []) hint_53_0 (by kernel_rfl)
  simp (disch := omega) [if_pos, if_neg, iteK_pos, iteK_neg]
  rw [lpB_eq]
  by_cases h2 : de = 0
  ·subst h2
   replace hD : pureV E (om E) 98 false [bs b0] = some (.tuple [lst eInstr code, ii 0, ii 0]) := hD
   rw [if_neg (by simp)] at hR
   by_cases h3 : code.length = w12.toNat
   ·rw [if_neg (by simp [h3])] at hR
    by_cases h4 : b1.length % 4 = 0
    ·by_cases h5 : 16384 < (wordsOf b1).length
     ·rw [if_pos (.inr h5)] at hR
      subst hR
      simp (disch := omega) [if_pos, if_neg, iteK_pos, iteK_neg, hD, a12, h3, h4, h5, img0]
     ·rw [if_neg (by omega)] at hR
      generalize hWs : wordsOf b1 = W at *
      have hWb := fun lent => RWhole lent ⟨code, W, b2, w48, w52, []⟩ (by dsimp only; omega)
      simp (disch := omega) [if_pos, if_neg, iteK_pos, iteK_neg, hD, a12, h3, h4, a48, a52]
      refine loop_chg (dyn := []) (fun n : Nat => [(15, .int .i64 (4 * (n : Int)))]) (fun n => [(0, 2, .row [lst eInstr code, .sref 0 3 0 n n (1, false), bs b2, w32 w48.toNat, w32 w52.toNat, .nilslice] 0 6 false false)]) (fun n => [.row (cat eU32 (W.take n)) n 1 true true]) (fun n => n ≤ W.length) (fun n => W.length - n) hint_53_1 (by kernel_rfl) ?_ 0 (by simp) (by simp)
      intro n hn IH
      rw [lpB_eq]
      by_cases hlt : n < W.length
      ·have hg := hWn n (by omega) hlt
       have ha := fun lent => hAt4 lent n (by omega)
       rw [← hg] at ha
       simp (disch := omega) [if_pos, if_neg, iteK_pos, iteK_neg, ha]
       refine IH (n + 1) _ _ (by omega) (by omega) ?_
       rw [take_snoc hlt, cat_append]
       simp [cat_cons, Int.mul_add, List.take_take]
      ·obtain rfl : n = W.length := by omega
       replace hWb : ∀ lent, pureV E (om E) 101 lent [.agg [lst eInstr code, lst eU32 W, lst eU8 b2, w32 w48.toNat, w32 w52.toNat, .scon [] 0 0 false]] = some (w64 (b2.length + w48.toNat + w52.toNat)) := hWb
       by_cases h6 : stackOk w52 = true
       ·rw [if_neg (by simp [h6])] at hR
        rw [h6] at hSt
        by_cases h7 : 65536 < b2.length + w48.toNat + w52.toNat
        ·rw [if_pos h7] at hR
         subst hR
         simp (disch := omega) [if_pos, if_neg, iteK_pos, iteK_neg, hSt, hWb, h7, img0]
        ·rw [if_neg h7] at hR
         by_cases h8 : ne = 0
         ·subst h8
          rw [if_neg (by simp)] at hR
          simp only [exps_ok] at hE'
          subst hR
          simp (disch := omega) [if_pos, if_neg, iteK_pos, iteK_neg, hSt, hWb, h7, hE', img0]
         ·rw [if_pos h8] at hR
          have e8 : expsR (nl, nat, ne) s3.place.toNat = .tuple [lst eExport [], ii ((s3.place.toNat + nat : Nat) : Int), bb false] := by unfold expsR; rw [if_neg h8]
          simp only [e8] at hE'
          subst hR
          simp (disch := omega) [if_pos, if_neg, iteK_pos, iteK_neg, hSt, hWb, h7, hE', img0]
          omega
       ·have h6' : stackOk w52 = false := by simpa using h6
        rw [if_pos h6'] at hR
        rw [h6'] at hSt
        subst hR
        simp (disch := omega) [if_pos, if_neg, iteK_pos, iteK_neg, hSt, img0]
    ·rw [if_pos (.inl h4)] at hR
     subst hR
     simp (disch := omega) [if_pos, if_neg, iteK_pos, iteK_neg, hD, a12, h3, h4, img0]
   ·rw [if_pos h3] at hR
    subst hR
    simp (disch := omega) [if_pos, if_neg, iteK_pos, iteK_neg, hD, a12, h3, img0]
  ·rw [if_pos h2] at hR
   replace hD : pureV E (om E) 98 false [bs b0] = some (.tuple [lst eInstr [], ii dat, ii de]) := by
    rw [hD]; unfold decV; rw [if_neg h2]
   subst hR
   simp (disch := omega) [if_pos, if_neg, iteK_pos, iteK_neg, hD, h2, img0]
   rw [iteK_pos (by kernel_rfl)]
   simp (disch := omega) [if_pos, if_neg, iteK_pos, iteK_neg, h2, img0]
 ·have : parseP l = (img0, headP l) := by unfold parseP; rw [if_pos h1]
  rw [this]
  exact RParse_bad false l hl h1
end Go.Proofs.YthiciofacaeddaaGreat
end
section
namespace Go.Proofs.YthiciofacaeddaaGreat
open Go Go.Sim
set_option maxRecDepth 100000
set_option maxHeartbeats 0
set_option linter.unusedSimpArgs false
set_option linter.unusedVariables false

theorem view_not_bool : ∀ (m : Nat) (h : Heap) (d j o e : Nat) (b : Bool), (V.view m h (.pref d j o e)).map V.canon ≠ some (.bool b)
 | 0, h, d, j, o, e, b => by simp [V.view]
 | m + 1, h, d, j, o, e, b => by
  intro hc
  simp only [V.view, Option.map_eq_some_iff] at hc
  obtain ⟨a, ha, hc⟩ := hc
  split at ha
  ·split at ha
   ·simp only [Option.bind_eq_some_iff, Option.some.injEq] at ha
    obtain ⟨c, _, rfl⟩ := ha
    simp at hc
   ·cases ha
  ·cases ha
theorem view_not_boolS : ∀ (m : Nat) (h : Heap) (d j o l e : Nat) (q : Nat × Bool) (b : Bool), (V.view m h (.sref d j o l e q)).map V.canon ≠ some (.bool b)
 | 0, h, d, j, o, l, e, q, b => by simp [V.view]
 | m + 1, h, d, j, o, l, e, q, b => by
  intro hc
  simp only [V.view, Option.map_eq_some_iff] at hc
  obtain ⟨a, ha, hc⟩ := hc
  split at ha
  ·split at ha
   ·simp only [Option.bind_eq_some_iff, Option.some.injEq] at ha
    obtain ⟨c, _, rfl⟩ := ha
    simp at hc
   ·cases ha
  ·cases ha
theorem lent_bool {f : FuncId} {args : List V} {b : Bool} (h : pureV E (om E) f false args = some (bb b)) : pureV E (om E) f true args = some (bb b) := by
 simp only [pureV, Option.bind_eq_some_iff] at h ⊢
 obtain ⟨⟨r, h1⟩, hb, h⟩ := h
 refine ⟨(r, h1), hb, ?_⟩
 simp only [Bool.false_and, Bool.false_eq_true, if_false] at h
 cases r with
 | bool c => simpa using h
 | pref d j o e =>
  cases d with
  | zero => exact absurd h (view_not_bool _ _ _ _ _ _ _)
  | succ d => simp [V.freeze, V.down] at h
 | sref d j o l e q =>
  cases d with
  | zero => exact absurd h (view_not_boolS _ _ _ _ _ _ _ _ _)
  | succ d => simp [V.freeze, V.down] at h
 | func fn a c =>
  simp only [V.freeze, Option.map_eq_some_iff, Option.bind_eq_some_iff] at h
  obtain ⟨_, ⟨_, _, _, _, h⟩, h'⟩ := h
  simp only [Option.some.injEq] at h
  subst h
  simp [V.canon] at h'
 | iface t c =>
  simp only [V.freeze, Option.map_eq_some_iff, Option.bind_eq_some_iff] at h
  obtain ⟨_, ⟨_, _, h⟩, h'⟩ := h
  simp only [Option.some.injEq] at h
  subst h
  simp [V.canon] at h'
 | agg c =>
  simp only [V.freeze, Option.map_eq_some_iff, Option.bind_eq_some_iff] at h
  obtain ⟨_, ⟨_, _, h⟩, h'⟩ := h
  simp only [Option.some.injEq] at h
  subst h
  simp [V.canon] at h'
 | tuple c =>
  simp only [V.freeze, Option.map_eq_some_iff, Option.bind_eq_some_iff] at h
  obtain ⟨_, ⟨_, _, h⟩, h'⟩ := h
  simp only [Option.some.injEq] at h
  subst h
  simp [V.canon] at h'
 | mref d j => simp [V.freeze, V.down] at h
 | yield d j => simp [V.freeze, V.down] at h
 | _ => simp [V.freeze, V.down, V.canon] at h
theorem parse_zero {l : List UInt8} (h : (parseP l).2.2 = 0) : (parseP l).2.1 = 0 := by
 unfold parseP at h ⊢
 by_cases h1 : (headP l).2 = 0
 ·rw [if_neg (by simp [h1])] at h ⊢
  by_cases h2 : (decI (segP l 0) 0 0).2.2 = 0
  ·rw [if_neg (by simp [h2])] at h ⊢
   split at h
   ·simp at h
   ·rename_i c3
    rw [if_neg c3]
    split at h
    ·simp at h
    ·rename_i c4
     rw [if_neg c4]
     split at h
     ·simp at h
     ·rename_i c5
      rw [if_neg c5]
      split at h
      ·simp at h
      ·rename_i c6
       rw [if_neg c6]
       split at h
       ·rename_i c7
        exact absurd h c7
       ·rename_i c7
        rw [if_neg c7]
  ·rw [if_pos h2] at h
   exact absurd h h2
 ·rw [if_pos h1] at h
  exact absurd h h1
theorem Load_at (l : List UInt8) (x : Img) (hl : l.length < 2 ^ 62) (hp : parseP l = (x, 0, 0)) (h : Taken x) {a : V} {B : List Blk} {r : Heap} (hnf : V.flat a = false) (hv : viewArgs (B :: r) [a] = some [bs l]) : ∃ j X, callV E (om E) 17 [a] (B :: r) = some (.tuple [.pref 0 (B.length + j) 0 0, ii 0, ii 0], (B ++ X) :: r) ∧
  ∀ (B' Y : List Blk) (R : Heap), B'.length = B.length → V.view 50 ((B' ++ (X ++ Y)) :: R) (.pref 0 (B.length + j) 0 0) = some (modU x) := by
 obtain ⟨j, X, hb, v1, _, v3⟩ := Take_body x h
 have hP := Parse l (by omega)
 rw [hp] at hP
 obtain ⟨b0, hb0⟩ : ∃ b0, b0 = Blk.row [lst eInstr x.code, ws x.jumps, bs x.data, w32 x.zero.toNat, w32 x.stack.toNat, lst eExport x.names] 0 6 true false := ⟨_, rfl⟩
 have hT : callV E (om E) 22 [imgV x] [[b0]] = some (.tuple [.pref 0 (1 + j) 0 0, ii 0, ii 0], [b0 :: X.map (outBlk 1)]) := by
  have hv1 : viewArgs [[b0]] [imgV x] = some [imgV x] := by simp
  rw [call_22, hv1, Option.bind_some, hb, Option.bind_some, if_neg (by simp)]
  simp [Heap.top, Heap.setTop]
 have hL : bodyV E (om E) 17 [bs l] [[]] = some (.tuple [.pref 0 (1 + j) 0 0, ii 0, ii 0], [b0 :: X.map (outBlk 1)]) := by
  apply bo_17
  rw [hb0] at hT ⊢
  simp (disch := omega) [if_pos, if_neg, iteK_pos, iteK_neg, Tryz.f17, hP]
  rw [hT]
  simp (disch := omega) [if_pos, if_neg, iteK_pos, iteK_neg]
 by_cases hlo : (!V.flatL [a] && !V.own [b0 :: X.map (outBlk 1)] (.tuple [.pref 0 (1 + j) 0 0, ii 0, ii 0])) = true
 ·refine ⟨1 + j, ((b0 :: X.map (outBlk 1)).map stripBlk).map (outBlk B.length), ?_, fun B' Y R hB => ?_⟩
  ·rw [call_17, hv, Option.bind_some, hL, Option.bind_some, if_pos hlo, strip_tup]
   simp [Heap.top, Heap.setTop]
  ·have := view_out B' ((b0 :: X.map (outBlk 1)).map stripBlk) Y R 50 _ _ (v3 b0)
   rw [hB] at this
   simpa using this
 ·have v4 := view_out [b0] X [] [] 50 _ _ v1
  rw [List.append_nil] at v4
  simp only [List.length_cons, List.length_nil, Nat.zero_add, List.cons_append, List.nil_append] at v4
  have v5 : V.view 50 [b0 :: X.map (outBlk 1)] (.pref 0 (1 + j) 0 0) = some (modU x) := by simpa using v4
  refine ⟨1 + j, (b0 :: X.map (outBlk 1)).map (outBlk B.length), ?_, fun B' Y R hB => ?_⟩
  ·rw [call_17, hv, Option.bind_some, hL, Option.bind_some, if_neg hlo]
   simp [Heap.top, Heap.setTop]
  ·have := view_out B' (b0 :: X.map (outBlk 1)) Y R 50 _ _ v5
   rw [hB] at this
   simpa using this
def LoadNo (l : List UInt8) (a e : Int) : Prop := ∀ (v : V) (B : List Blk) (r : Heap), viewArgs (B :: r) [v] = some [bs l] → ∃ Y, callV E (om E) 17 [v] (B :: r) = some (.tuple [.nilptr, ii a, ii e], (B ++ Y) :: r)
theorem loadNo {l : List UInt8} {a e : Int} (hb : ∃ X, bodyV E (om E) 17 [bs l] [[]] = some (.tuple [.nilptr, ii a, ii e], [X])) : LoadNo l a e := by
 intro v B r hv
 obtain ⟨X, hb⟩ := hb
 refine ⟨?_, ?_⟩
 rotate_left
 rw [call_17, hv]
 simp [hb, Heap.setTop, Heap.top]
 rfl
theorem Load_parse (l : List UInt8) (hl : l.length < 2 ^ 62) (h : (parseP l).2.2 ≠ 0) : LoadNo l (parseP l).2.1 (parseP l).2.2 := by
 have hP := Parse l (by omega)
 generalize parseP l = D at *
 obtain ⟨x, a, e⟩ := D
 dsimp only at h
 apply loadNo
 refine ⟨?_, ?_⟩
 rotate_left
 apply bo_17
 simp (disch := omega) [if_pos, if_neg, iteK_pos, iteK_neg, Tryz.f17, hP, h]
 rfl
theorem Load_take (l : List UInt8) (x : Img) (hl : l.length < 2 ^ 62) (hp : parseP l = (x, 0, 0)) {a e : Int} (hT : TakeNo x a e) : LoadNo l a e := by
 have hP := Parse l (by omega)
 rw [hp] at hP
 obtain ⟨Y, hY⟩ := hT (imgV x) [Blk.row [lst eInstr x.code, ws x.jumps, bs x.data, w32 x.zero.toNat, w32 x.stack.toNat, lst eExport x.names] 0 6 true false] [] (by simp)
 apply loadNo
 refine ⟨?_, ?_⟩
 rotate_left
 apply bo_17
 simp (disch := omega) [if_pos, if_neg, iteK_pos, iteK_neg, Tryz.f17, hP, hY]
 rfl
theorem RLoad_ok (l : List UInt8) (x : Img) (hl : l.length < 2 ^ 62) (hp : parseP l = (x, 0, 0)) (h : Taken x) : pureV E (om E) 18 false [bs l] = some (.tuple [refV x, ii 0, ii 0]) := by
 apply pu_18
 have hP := RParse l hl
 rw [hp] at hP
 have hR := RTake_ok x h
 have hs := ref_solid x
 obtain ⟨r1, r2, r3⟩ := hs
 have hfz : ∀ H, V.freeze H (refV x) = some (refV x) := fun H => by simp
 generalize refV x = R at *
 simp (disch := omega) [if_pos, if_neg, iteK_pos, iteK_neg, Tryz.f18, hP, hR, r1, r2, r3, hfz]
theorem RLoad_parse (l : List UInt8) (hl : l.length < 2 ^ 62) (h : (parseP l).2.2 ≠ 0) : pureV E (om E) 18 false [bs l] = some (.tuple [.nilptr, ii (parseP l).2.1, ii (parseP l).2.2]) := by
 apply pu_18
 have hP := RParse l hl
 generalize parseP l = D at *
 obtain ⟨x, a, e⟩ := D
 dsimp only at h
 simp (disch := omega) [if_pos, if_neg, iteK_pos, iteK_neg, Tryz.f18, hP, h]
theorem RLoad_take (l : List UInt8) (x : Img) (hl : l.length < 2 ^ 62) (hp : parseP l = (x, 0, 0)) {a e : Int} (hT : RTakeNo x a e) : pureV E (om E) 18 false [bs l] = some (.tuple [.nilptr, ii a, ii e]) := by
 apply pu_18
 have hP := RParse l hl
 rw [hp] at hP
 unfold RTakeNo at hT
 simp (disch := omega) [if_pos, if_neg, iteK_pos, iteK_neg, Tryz.f18, hP, hT]
theorem both_load (l : List UInt8) (hl : l.length < 2 ^ 47) (h : ¬ ∃ x, parseP l = (x, 0, 0) ∧ Taken x) : ∃ a e : Int, LoadNo l a e ∧ pureV E (om E) 18 false [bs l] = some (.tuple [.nilptr, ii a, ii e]) := by
 by_cases hp : (parseP l).2.2 = 0
 ·obtain ⟨q1, q2, q3, q4⟩ := parse_len l
  have hz := parse_zero hp
  obtain ⟨x, hx⟩ : ∃ x, parseP l = (x, 0, 0) := ⟨(parseP l).1, Prod.ext rfl (Prod.ext hz hp)⟩
  rw [hx] at q1 q2 q3 q4
  dsimp only at q1 q2 q3 q4
  have hnt : ¬ Taken x := fun ht => h ⟨x, hx, ht⟩
  obtain ⟨a, e, he, hTn, hRn⟩ := both_no x (by omega) (by omega) (by omega) (by omega) hnt
  exact ⟨a, e, Load_take l x (by omega) hx hTn, RLoad_take l x (by omega) hx hRn⟩
 ·exact ⟨_, _, Load_parse l (by omega) hp, RLoad_parse l (by omega) hp⟩
theorem viewLentB {H : List Blk} {b : Nat} {l : List UInt8} (h : H[b]? = some (.row (cat eU8 (l ++ marksB 64)) (l.length + 64) 1 true true)) (r : Heap) : viewArgs (H :: r) [.sref 0 b 0 l.length (l.length + 64) (1, false)] = some [bs l] := by
 have c3 := cut_pre eU8 l (marksB 64) (k := 1) rfl
 simp [h, c3]
theorem viewLentBV {H : List Blk} {b : Nat} {l : List UInt8} (h : H[b]? = some (.row (cat eU8 (l ++ marksB 64)) (l.length + 64) 1 true true)) (r : Heap) : viewArgs (H :: r) [.sref 0 b 0 (l.length + 64) (l.length + 64) (1, false), bs l] = some [bs (l ++ marksB 64), bs l] := by
 have d3 : cutCells (cat eU8 (l ++ marksB 64)) 0 (l.length + 64) 1 = cat eU8 (l ++ marksB 64) := cut_all eU8 rfl (by simp)
 simp [h, d3]
 exact fold_lst _ (by simp)
theorem neq_prefM (x y : Operand) (d j o e : Nat) : binO E .neq 29 x y (.pref d j o e) .nilptr = some (.bool true) := by
 show binV E .neq 29 (.pref d j o e) .nilptr = some (.bool true)
 have h : E.P.underlying 29 = some (.pointer 122) := by kernel_rfl
 unfold binV
 simp [eqV, h]
theorem VerifyLoads (l : List UInt8) (hl : l.length ≤ 140737488351232) : pureV E (om E) 6 false [bs l] = some (bb true) := by
 apply pu_6
 have hLB : callV E (om E) 16 [bs l] [[]] = some (.sref 0 0 0 (l.length + 64) (l.length + 64) (1, false), [[.row (cat eU8 (l ++ marksB 64)) (l.length + 64) 1 true true]]) := LentBytes_at l hl (by simp)
 have hK := KeptBytes true l hl
 have hL0 : ∀ Y : List Blk, (Blk.row (cat eU8 (l ++ marksB 64)) (l.length + 64) 1 true true :: Y)[0]? = some (Blk.row (cat eU8 (l ++ marksB 64)) (l.length + 64) 1 true true) := fun Y => rfl
 have hKc : ∀ Y : List Blk, callV E (om E) 19 [.sref 0 0 0 (l.length + 64) (l.length + 64) (1, false), bs l] [Blk.row (cat eU8 (l ++ marksB 64)) (l.length + 64) 1 true true :: Y] = some (bb true, [Blk.row (cat eU8 (l ++ marksB 64)) (l.length + 64) 1 true true :: Y]) := fun Y => by
  rw [call_19, viewLentBV (hL0 Y)]
  simp [hK]
 have hO : ∀ Y : List Blk, ∃ C, callV E (om E) 20 [.sref 0 0 0 (l.length + 64) (l.length + 64) (1, false)] [Blk.row (cat eU8 (l ++ marksB 64)) (l.length + 64) 1 true true :: Y] = some (.tuple [], [C :: Y]) := fun Y => by
  have hm : (l ++ marksB 64).length = l.length + 64 := by simp
  have := OverBytes_at0 (l ++ marksB 64) (by rw [hm]; omega) (Blk.row (cat eU8 (l ++ marksB 64)) (l.length + 64) 1 true true :: Y) [] 0 (l.length + 64) rfl
  rw [hm] at this
  exact ⟨_, this⟩
 by_cases h : ∃ x, parseP l = (x, 0, 0) ∧ Taken x
 ·obtain ⟨x, hp, ht⟩ := h
  obtain ⟨j, X, hT, hV⟩ := Load_at l x (by omega) hp ht (a := .sref 0 0 0 l.length (l.length + 64) (1, false)) (B := [Blk.row (cat eU8 (l ++ marksB 64)) (l.length + 64) 1 true true]) (r := []) (by simp) (viewLentB (hL0 []) [])
  have hR := RLoad_ok l x (by omega) hp ht
  obtain ⟨C, hOc⟩ := hO X
  have hV' := hV [C] [] [] rfl
  simp only [List.length_cons, List.length_nil, Nat.zero_add, List.cons_append, List.nil_append, List.append_nil] at hV'
  have hW := lent_bool (Whole x ht)
  have hc := canon_modU x
  obtain ⟨g1, g2, g3⟩ := mod_solid x
  obtain ⟨r1, r2, r3⟩ := ref_solid x
  have hw : callV E (om E) 9 [.pref 0 (1 + j) 0 0, refV x] [C :: X] = some (bb true, [C :: X]) := by
   have hva : viewArgs [C :: X] [.pref 0 (1 + j) 0 0, refV x] = some [modV x, refV x] := by
    have hvR : viewArgs [C :: X] [refV x] = some [refV x] := by simp
    show (if V.flat (.pref 0 (1 + j) 0 0) = true then _ else V.view 50 [C :: X] _).bind (fun v' => (viewArgs [C :: X] [refV x]).bind fun r' => some (V.canon v' :: r')) = _
    rw [hvR, if_neg (by simp), hV']
    simp only [Option.bind_some, hc]
   rw [call_9, hva]
   simp [hW]
  simp only [List.length_cons, List.length_nil, Nat.zero_add, List.cons_append, List.nil_append] at hT
  have hRe : ∀ p q, binO E .eql 30 p q (refV x) .nilptr = some (.bool false) := fun p q => eq_pconR _ _ _ _
  generalize refV x = R at *
  simp (disch := omega) [if_pos, if_neg, iteK_pos, iteK_neg, Tryz.f6, hLB, hT, hR, hKc, hOc, eq_prefM, neqBool, neq_prefM, hRe, hw, r1, r2, r3, -call_19, -call_9, -view_pref]
 ·obtain ⟨a, e, hLn, hRn⟩ := both_load l (by omega) h
  obtain ⟨X, hT⟩ := hLn _ _ _ (viewLentB (hL0 []) [])
  obtain ⟨C, hOc⟩ := hO X
  simp only [List.cons_append, List.nil_append] at hT
  simp (disch := omega) [if_pos, if_neg, iteK_pos, iteK_neg, Tryz.f6, hLB, hT, hRn, hKc, hOc, eq_nilM, eq_nilR, neqBool, Awake, -call_19]
end Go.Proofs.YthiciofacaeddaaGreat
end
