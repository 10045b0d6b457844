/-
 The document's answer for layer 7.
 The document's answer for layer 2, as far as an image asks it.
 The document's answer for layer 8: Check and Encode.
 The document's answer for layer 7: code read from bytes.
-/
import Derived.Test.YthiciofacaeddaaGreatRa
import Derived.Test.YthiciofacaeddaaGreatId
import Derived.Test.YthiciofacaeddaaGreatMd
import Derived.Test.YthiciofacaeddaaGreatIa
import Derived.Test.YthiciofacaeddaaGreatIf
import Derived.Test.YthiciofacaeddaaGreatIc
import Derived.Test.YthiciofacaeddaaGreatFf
section
namespace Go.Proofs.YthiciofacaeddaaGreat
open Go Go.Sim
set_option maxRecDepth 100000
set_option maxHeartbeats 0
set_option linter.unusedSimpArgs false
set_option linter.unusedVariables false

theorem RCheck (lent) (i : Instr) : pureV E (om E) 121 lent [insV i] = some (ii (insBad i)) := by
 apply pu_121
 by_cases h1 : isOp i.op.toNat = true <;> by_cases h2 : (rowOf i.op.toNat).most < i.arg.toNat <;> simp (disch := omega) [if_pos, if_neg, iteK_pos, iteK_neg, Tryz.f121, RInfo, h1, h2, insBad]
theorem RSize (lent) (i : Instr) : pureV E (om E) 166 lent [insV i] = some (ii (if insBad i = 0 then 1 + (rowOf i.op.toNat).width else 0)) := by
 apply pu_166
 have hw := (rowOf_some i.op).1
 by_cases h : insBad i = 0 <;> simp (disch := omega) [if_pos, if_neg, iteK_pos, iteK_neg, Tryz.f166, RInfo, RCheck, h]
theorem REncode (lent) (code : List Instr) (h : code.length ≤ 16384) (hb : ∀ i ∈ code, insBad i = 0) : pureV E (om E) 123 lent [lst eInstr code] = some (.tuple [bs (encI code), ii 0, ii 0]) := by
 apply pu_123
 simp (disch := omega) [if_pos, if_neg, iteK_pos, iteK_neg, Tryz.f123]
 refine loop_chg (dyn := []) (fun a : Nat × Nat => [(5, .sref 0 0 0 (encI (code.take a.1)).length a.2 (1, false)), (6, ii a.1)]) (fun _ => []) (fun a => [.row (cat eU8 (encI (code.take a.1))) a.2 1 true true]) (fun a => a.1 ≤ code.length) (fun a => code.length - a.1) hint_123_0 (by kernel_rfl) ?_ (0, 0) (by simp) (by simp [encI])
 rintro ⟨i, e⟩ hi IH
 rw [lpB_eq]
 dsimp only at hi ⊢
 have hl := encI_len (code.take i)
 have hle : (code.take i).length = i := by simp; omega
 by_cases hlt : i < code.length
 ·have hbi : insBad code[i] = 0 := hb _ (List.getElem_mem hlt)
  have hw := (rowOf_some code[i].op).1
  have hx := code[i].arg.toNat_lt
  simp (disch := omega) [if_pos, if_neg, iteK_pos, iteK_neg, hlt, RCheck, RSize, hbi]
  have hw4 : (bytes4 code[i].arg).take (rowOf code[i].op.toNat).width = (bytes4 code[i].arg).take (rowOf code[i].op.toNat).width := rfl
  have hnew : encI (code.take (i + 1)) = encI (code.take i) ++ (code[i].op :: (bytes4 code[i].arg).take (rowOf code[i].op.toNat).width) := by
   rw [take_snoc hlt]; unfold encI; rw [List.flatMap_append, List.flatMap_singleton]; rfl
  obtain ⟨w, hw'⟩ : ∃ w, w = (rowOf code[i].op.toNat).width := ⟨_, rfl⟩
  rw [← hw'] at hw hnew ⊢
  obtain ⟨p, hp⟩ : ∃ p, p = encI (code.take i) := ⟨_, rfl⟩
  rw [← hp] at hl hnew ⊢
  refine loop_chg (dyn := []) (fun k : Nat => [(5, .sref 0 0 0 (p.length + 1 + k) (e + 1 + k) (1, false)), (8, .int .u32 (code[i].arg.toNat / 256 ^ k : Nat)), (10, ii (1 + k))]) (fun k => [(0, 0, .row (cat eU8 (p ++ (code[i].op :: (bytes4 code[i].arg).take k))) (e + 1 + k) 1 true true)]) (fun k => []) (fun k => k ≤ w) (fun k => w - k) hint_123_1 (by kernel_rfl) ?_ 0 (by omega) (by simp [cat_append, cat_cons])
  intro k hk IH2
  rw [lpB_eq]
  by_cases hkw : k < w
  ·have hk4 : k < 4 := by omega
   have hb4 : (bytes4 code[i].arg).take (k + 1) = (bytes4 code[i].arg).take k ++ [UInt8.ofNat (code[i].arg.toNat / 256 ^ k % 256)] := by
    have : k = 0 ∨ k = 1 ∨ k = 2 ∨ k = 3 := by omega
    rcases this with rfl | rfl | rfl | rfl <;> simp [bytes4]
   have hdiv : code[i].arg.toNat / 256 ^ (k + 1) = code[i].arg.toNat / 256 ^ k / 256 := by rw [Nat.pow_succ, Nat.div_div_eq_div_mul]
   have hlt32 : code[i].arg.toNat / 256 ^ k < 4294967296 := Nat.lt_of_le_of_lt (Nat.div_le_self _ _) hx
   have hlk : ((bytes4 code[i].arg).take k).length = k := by simp; omega
   generalize code[i].arg.toNat / 256 ^ k = y at *
   simp (disch := omega) [if_pos, if_neg, iteK_pos, iteK_neg, hkw, Int.fdiv_eq_ediv_of_nonneg]
   refine IH2 (k + 1) _ _ (by omega) (by omega) ?_
   have e1 : List.take (p.length + 1 + k) (p ++ code[i].op :: List.take k (bytes4 code[i].arg)) = p ++ code[i].op :: List.take k (bytes4 code[i].arg) := List.take_of_length_le (by simp only [List.length_append, List.length_cons, hlk]; omega)
   have e2 : (1 : Int) + k + 1 = 1 + ((k + 1 : Nat) : Int) := by omega
   rw [hb4, hdiv, e1]
   simp [cat_append, cat_cons, Nat.add_assoc, e2]
  ·obtain rfl : k = w := by omega
   simp (disch := omega) [if_pos, if_neg, iteK_pos, iteK_neg]
   refine IH (i + 1, e + 1 + k) _ _ (by simp only; omega) (by simp only; omega) ?_
   have hlk : (p ++ code[i].op :: List.take k (bytes4 code[i].arg)).length = p.length + 1 + k := by simp; omega
   rw [hnew]
   dsimp only
   rw [hlk]
   simp
 ·simp (disch := omega) [if_pos, if_neg, iteK_pos, iteK_neg, hlt]
  rw [List.take_of_length_le (by omega)]
end Go.Proofs.YthiciofacaeddaaGreat
end
section
namespace Go.Proofs.YthiciofacaeddaaGreat
open Go Go.Sim
set_option maxRecDepth 100000
set_option maxHeartbeats 0
set_option linter.unusedSimpArgs false
set_option linter.unusedVariables false

theorem RSum (lent) (l : List UInt8) (hl : l.length < 2 ^ 62) : pureV E (om E) 76 lent [bs l] = some (w32 (adler l).toNat) := by
 apply pu_76
 simp (disch := omega) [if_pos, if_neg, iteK_pos, iteK_neg, Tryz.f76]
 refine loop_chg (dyn := []) (fun a : Nat × Int × Int => [(3, .int .u32 a.2.1), (4, .int .u32 a.2.2), (5, ii a.1)]) (fun _ => []) (fun _ => []) (fun a => a.1 ≤ l.length ∧ a.2 = sums (l.take a.1) (1, 0)) (fun a => l.length - a.1) hint_76_0 (by kernel_rfl) ?_ (0, 1, 0) ⟨by simp, rfl⟩ (by simp)
 rintro ⟨i, lo, hi⟩ ⟨h1, h2⟩ IH
 rw [lpB_eq]
 dsimp only at h1 h2 ⊢
 have hf := sums_fits (l.take i) (1, 0) (by simp)
 rw [← h2] at hf
 dsimp only at hf
 by_cases hlt : i < l.length
 ·have hb := toNat_lt8 l[i]
  simp (disch := omega) [if_pos, if_neg, iteK_pos, iteK_neg, hlt]
  refine IH (i + 1, (lo + l[i].toNat) % 65521, (hi + (lo + l[i].toNat) % 65521) % 65521) _ _ ⟨by dsimp only; omega, ?_⟩ (by dsimp only; omega) (by simp)
  dsimp only
  rw [take_snoc hlt, sums_append, ← h2]; rfl
 ·obtain rfl : i = l.length := by omega
  rw [List.take_length] at h2
  simp (disch := omega) [if_pos, if_neg, iteK_pos, iteK_neg]
  rw [adler_toNat, ← h2]
theorem REnd (lent) (s : Span) : pureV E (om E) 151 lent [spv s] = some (w64 (s.place.toNat + s.len.toNat)) := by
 apply pu_151
 simp (disch := omega) [if_pos, if_neg, iteK_pos, iteK_neg, Tryz.f151]
theorem RWithin (lent) (s : Span) (t : Nat) (ht : t < 4294967296) : pureV E (om E) 149 lent [spv s, .int .u32 t] = some (bb (decide (s.stop ≤ t))) := by
 apply pu_149
 have := s.place.toNat_lt; have := s.len.toNat_lt
 unfold Span.stop
 simp (disch := omega) [if_pos, if_neg, iteK_pos, iteK_neg, Tryz.f149, REnd]
 omega
theorem RLap (lent) (a b : Span) : pureV E (om E) 177 lent [spv a, spv b] = some (bb (lap a b)) := by
 apply pu_177
 have := a.place.toNat_lt; have := a.len.toNat_lt; have := b.place.toNat_lt; have := b.len.toNat_lt
 unfold lap
 by_cases h1 : 0 < a.len.toNat <;> by_cases h2 : 0 < b.len.toNat <;> by_cases h3 : a.place.toNat < b.place.toNat + b.len.toNat <;> simp (disch := omega) [if_pos, if_neg, iteK_pos, iteK_neg, Tryz.f177, REnd, h1, h2, h3]
 all_goals omega
theorem RApart (lent) (l : List Span) (hl : l.length < 2 ^ 40) : pureV E (om E) 150 lent [lst eSpan l] = some (apartV' (lapFrom l 0)) := by
 apply pu_150
 simp (disch := omega) [if_pos, if_neg, iteK_pos, iteK_neg, Tryz.f150]
 refine loop_chg (dyn := []) (fun i : Nat => [(5, ii i)]) (fun _ => []) (fun _ => []) (fun i => i ≤ l.length ∧ lapFrom l i = lapFrom l 0) (fun i => l.length - i) hint_150_0 (by kernel_rfl) ?_ 0 ⟨by simp, rfl⟩ (by simp)
 rintro i ⟨hi, hf⟩ IH
 rw [lpB_eq]
 by_cases hlt : i < l.length
 ·simp (disch := omega) [if_pos, if_neg, iteK_pos, iteK_neg, hlt]
  refine loop_chg (dyn := []) (fun j : Nat => [(6, ii j)]) (fun _ => []) (fun _ => []) (fun j => j ≤ i ∧ firstLap l[i] (l.take i) j = firstLap l[i] (l.take i) 0) (fun j => i - j) hint_150_1 (by kernel_rfl) ?_ 0 ⟨by simp, rfl⟩ (by simp)
  rintro j ⟨hj, hg⟩ IH2
  rw [lpB_eq]
  by_cases hjt : j < i
  ·have hjl : j < (l.take i).length := by simp; omega
   rw [firstLap, dif_pos hjl] at hg
   have hjl2 : j < l.length := by omega
   by_cases hlap : lap l[i] l[j] = true
   ·have hjj : lap l[i] (l.take i)[j] = true := by simpa using hlap
    rw [if_pos hjj] at hg
    rw [lapFrom, dif_pos hlt, ← hg] at hf
    simp (disch := omega) [if_pos, if_neg, iteK_pos, iteK_neg, hjt, hlt, hjl2, RLap, hlap, ← hf, apartV']
   ·have hjj : ¬ lap l[i] (l.take i)[j] = true := by simpa using hlap
    rw [if_neg hjj] at hg
    simp (disch := omega) [if_pos, if_neg, iteK_pos, iteK_neg, hjt, hlt, hjl2, RLap, hlap]
    exact IH2 (j + 1) _ _ ⟨by omega, hg⟩ (by omega) (by simp)
  ·have hjl : ¬ j < (l.take i).length := by simp; omega
   rw [firstLap, dif_neg hjl] at hg
   rw [lapFrom, dif_pos hlt, ← hg] at hf
   simp (disch := omega) [if_pos, if_neg, iteK_pos, iteK_neg, hjt]
   exact IH (i + 1) _ _ ⟨by omega, hf⟩ (by omega) (by simp)
 ·obtain rfl : i = l.length := by omega
  rw [lapFrom, dif_neg hlt] at hf
  rw [← hf]
  simp (disch := omega) [if_pos, if_neg, iteK_pos, iteK_neg, apartV']
theorem RNumber (lent) (l : List UInt8) (n : Nat) (hl : l.length < 2 ^ 40) (h : n + 4 ≤ l.length) : pureV E (om E) 179 lent [ii 4, bs l, ii n] = some (w64 (wordAt l n).toNat) := by
 apply pu_179
 obtain ⟨a, b, c, d, r, hd⟩ := drop4 h
 have := a.toNat_lt; have := b.toNat_lt; have := c.toNat_lt; have := d.toNat_lt
 have g0 : l[n]'(by omega) = a := by have := List.getElem_drop (xs := l) (i := n) (j := 0) (h := by simp; omega); simp only [hd] at this; simpa using this.symm
 have g1 : l[n + 1]'(by omega) = b := by have := List.getElem_drop (xs := l) (i := n) (j := 1) (h := by simp; omega); simp only [hd] at this; simpa using this.symm
 have g2 : l[n + 2]'(by omega) = c := by have := List.getElem_drop (xs := l) (i := n) (j := 2) (h := by simp; omega); simp only [hd] at this; simpa using this.symm
 have g3 : l[n + 3]'(by omega) = d := by have := List.getElem_drop (xs := l) (i := n) (j := 3) (h := by simp; omega); simp only [hd] at this; simpa using this.symm
 have hw : wordAt l n = word4 a b c d := by simp [wordAt, hd]
 have n3 : ((n : Int) + 3).toNat = n + 3 := by omega
 have n2 : ((n : Int) + 2).toNat = n + 2 := by omega
 have n1 : ((n : Int) + 1).toNat = n + 1 := by omega
 rw [hw, word4_toNat]
 simp (disch := omega) [if_pos, if_neg, iteK_pos, iteK_neg, Tryz.f179]
 iterate 5
  apply loop_next (dyn := []) hint_179_0 (by kernel_rfl)
  simp (disch := omega) [if_pos, if_neg, iteK_pos, iteK_neg]
  rw [lpB_eq]
  simp (disch := omega) [if_pos, if_neg, iteK_pos, iteK_neg, g0, g1, g2, g3, n1, n2, n3]
 omega
theorem RAt (lent) (l : List UInt8) (n : Nat) (hl : l.length < 2 ^ 40) (h : n + 4 ≤ l.length) : pureV E (om E) 153 lent [ii 4, bs l, ii n] = some (.tuple [w64 (wordAt l n).toNat, ii 0]) := by
 apply pu_153
 have hN := fun lent => RNumber lent l n hl h
 simp (disch := omega) [if_pos, if_neg, iteK_pos, iteK_neg, Tryz.f153, hN]
theorem RPut1 (lent) (x : UInt32) : pureV E (om E) 169 lent [ii 4, .scon [.int .u64 x.toNat] 0 1 false] = some (bs (bytes4 x)) := by
 apply pu_169
 have hx := x.toNat_lt
 simp (disch := omega) [if_pos, if_neg, iteK_pos, iteK_neg, Tryz.f169]
 apply loop_next (dyn := []) hint_169_0 (by kernel_rfl)
 simp (disch := omega) [if_pos, if_neg, iteK_pos, iteK_neg]
 rw [lpB_eq]
 simp (disch := omega) [if_pos, if_neg, iteK_pos, iteK_neg]
 iterate 5
  apply loop_next (dyn := []) hint_169_1 (by kernel_rfl)
  simp (disch := omega) [if_pos, if_neg, iteK_pos, iteK_neg]
  rw [lpB_eq]
  simp (disch := omega) [if_pos, if_neg, iteK_pos, iteK_neg, Int.fdiv_eq_ediv_of_nonneg]
 apply loop_next (dyn := []) hint_169_0 (by kernel_rfl)
 simp (disch := omega) [if_pos, if_neg, iteK_pos, iteK_neg]
 rw [lpB_eq]
 simp (disch := omega) [if_pos, if_neg, iteK_pos, iteK_neg]
 exact res_lst' eU8 (by simp [bytes4, cat_cons]; omega) rfl rfl
theorem RCut (lent) (l : List UInt8) (s : Span) (hl : l.length < 2 ^ 40) (h : s.stop ≤ l.length) : pureV E (om E) 97 lent [bs l, spv s] = some (.tuple [bs ((l.drop s.place.toNat).take s.len.toNat), ii 0]) := by
 apply pu_97
 have := s.place.toNat_lt; have := s.len.toNat_lt
 have hst := h
 unfold Span.stop at hst
 have hlen : ((l.drop s.place.toNat).take s.len.toNat).length = s.len.toNat := by simp; omega
 generalize hc : (l.drop s.place.toNat).take s.len.toNat = c at *
 have hg : ∀ i, (hi : i < c.length) → c[i] = l[s.place.toNat + i]'(by omega) := fun i hi => by subst hc; simp
 simp (disch := omega) [if_pos, if_neg, iteK_pos, iteK_neg, Tryz.f97, REnd]
 refine loop_chg (dyn := []) (fun n : Nat => [(6, .sref 0 1 0 n n (1, false)), (7, ii n)]) (fun _ => []) (fun n => [.row (cat eU8 (c.take n)) n 1 true true]) (fun n => n ≤ c.length) (fun n => c.length - n) hint_97_0 (by kernel_rfl) ?_ 0 (by simp) (by simp)
 intro n hn IH
 rw [lpB_eq]
 by_cases h : n < c.length
 ·have hgn := hg n h
  simp (disch := omega) [if_pos, if_neg, iteK_pos, iteK_neg, h, hlen]
  refine IH (n + 1) _ _ (by omega) (by omega) ?_
  rw [take_snoc h, cat_append, hgn]
  simp [cat_cons, List.take_take]
 ·obtain rfl : n = c.length := by omega
  simp (disch := omega) [if_pos, if_neg, iteK_pos, iteK_neg, hlen]
  exact res_lst' eU8 (by rw [List.take_of_length_le (by omega)]) hlen.symm rfl
def shr (x : Nat) (i : Nat) : Nat := x / 256 ^ (min (i - 8) 4)
theorem shr_in (x : Nat) {i : Nat} (h1 : 8 ≤ i) (h2 : i < 12) : shr x (i + 1) = shr x i / 256 := by
 unfold shr
 rw [show min (i + 1 - 8) 4 = min (i - 8) 4 + 1 by omega, Nat.pow_succ, Nat.div_div_eq_div_mul]
theorem shr_out (x : Nat) {i : Nat} (h : i < 8 ∨ 12 ≤ i) : shr x (i + 1) = shr x i := by
 unfold shr
 rw [show min (i + 1 - 8) 4 = min (i - 8) 4 by omega]
theorem shr_lt {x : Nat} (h : x < 4294967296) (i : Nat) : shr x i < 4294967296 := Nat.lt_of_le_of_lt (Nat.div_le_self _ _) h
theorem with4_at8 (l : List UInt8) (x : UInt32) (h : 12 ≤ l.length) (i : Nat) (hi : i < (with4 l 8 x).length) : (with4 l 8 x)[i].toNat = if 8 ≤ i ∧ i < 12 then shr x.toNat i % 256 else (l[i]'(by rw [with4_length x (by omega)] at hi; exact hi)).toNat := by
 have hl := with4_length (l := l) (n := 8) x (by omega)
 have hx := x.toNat_lt
 unfold with4 at hi ⊢
 by_cases h1 : i < 8
 ·rw [if_neg (by omega)]
  rw [List.getElem_append_left (by simp; omega), List.getElem_append_left (by simp; omega)]
  simp
 ·by_cases h2 : i < 12
  ·rw [if_pos (by omega), List.getElem_append_left (by simp; omega), List.getElem_append_right (by simp; omega)]
   have : i = 8 ∨ i = 9 ∨ i = 10 ∨ i = 11 := by omega
   have hm : min 8 l.length = 8 := by omega
   rcases this with rfl | rfl | rfl | rfl <;> simp [bytes4, shr, hm]
  ·rw [if_neg (by omega), List.getElem_append_right (by simp; omega)]
   simp
   congr 2; omega
theorem RWith (lent) (l : List UInt8) (x : UInt32) (hl : l.length < 2 ^ 40) (h : 12 ≤ l.length) : pureV E (om E) 170 lent [ii 4, bs l, ii 8, .int .u64 x.toNat] = some (.tuple [bs (with4 l 8 x), ii 0]) := by
 apply pu_170
 have hx := x.toNat_lt
 have hlen := with4_length (l := l) (n := 8) x (by omega)
 have hg : ∀ c, c = with4 l 8 x → ∀ i, (hi : i < c.length) → (hil : i < l.length) → c[i].toNat = if 8 ≤ i ∧ i < 12 then shr x.toNat i % 256 else l[i].toNat := by
  rintro c rfl i hi hil
  exact with4_at8 l x h i hi
 obtain ⟨c, hc⟩ : ∃ c, c = with4 l 8 x := ⟨_, rfl⟩
 replace hg := hg c hc
 rw [← hc] at hlen ⊢
 clear hc
 simp (disch := omega) [if_pos, if_neg, iteK_pos, iteK_neg, Tryz.f170]
 refine loop_chg (dyn := []) (fun n : Nat => [(3, .int .u64 (shr x.toNat n)), (10, .sref 0 0 0 n n (1, false)), (11, ii n)]) (fun _ => []) (fun n => [.row (cat eU8 (c.take n)) n 1 true true]) (fun n => n ≤ c.length) (fun n => c.length - n) hint_170_0 (by kernel_rfl) ?_ 0 (by simp) (by simp [shr])
 intro n hn IH
 rw [lpB_eq]
 have hs := shr_lt hx n
 by_cases hlt : n < c.length
 ·have hnl : n < l.length := by omega
  have hgn := hg n hlt hnl
  by_cases h8 : 8 ≤ n
  ·by_cases h12 : n < 12
   ·rw [if_pos ⟨h8, h12⟩] at hgn
    simp (disch := omega) [if_pos, if_neg, iteK_pos, iteK_neg, hnl, h8, h12, Int.fdiv_eq_ediv_of_nonneg]
    refine IH (n + 1) _ _ (by omega) (by omega) ?_
    rw [take_snoc hlt, cat_append, shr_in _ h8 h12]
    simp [cat_cons, List.take_take, hgn]
   ·rw [if_neg (by omega)] at hgn
    simp (disch := omega) [if_pos, if_neg, iteK_pos, iteK_neg, hnl, h8, h12]
    refine IH (n + 1) _ _ (by omega) (by omega) ?_
    rw [take_snoc hlt, cat_append, shr_out _ (by omega)]
    simp [cat_cons, List.take_take, hgn]
  ·rw [if_neg (by omega)] at hgn
   simp (disch := omega) [if_pos, if_neg, iteK_pos, iteK_neg, hnl, h8]
   refine IH (n + 1) _ _ (by omega) (by omega) ?_
   rw [take_snoc hlt, cat_append, shr_out _ (by omega)]
   simp [cat_cons, List.take_take, hgn]
 ·obtain rfl : n = c.length := by omega
  simp (disch := omega) [if_pos, if_neg, iteK_pos, iteK_neg, hlen]
  exact res_lst' eU8 (by rw [List.take_of_length_le (by omega)]) hlen.symm rfl
end Go.Proofs.YthiciofacaeddaaGreat
end
section
namespace Go.Proofs.YthiciofacaeddaaGreat
open Go Go.Sim
set_option maxRecDepth 100000
set_option maxHeartbeats 0
set_option linter.unusedSimpArgs false
set_option linter.unusedVariables false

theorem RStacks (lent) (n : UInt32) : pureV E (om E) 100 lent [w32 n.toNat] = some (bb (stackOk n)) := by
 apply pu_100
 unfold stackOk
 by_cases h1 : n.toNat % 4 = 0 <;> by_cases h2 : 64 ≤ n.toNat <;> simp (disch := omega) [if_pos, if_neg, iteK_pos, iteK_neg, Tryz.f100, h1, h2]
 all_goals omega
theorem RWhole (lent) (x : Img) (h3 : x.data.length < 2 ^ 63) : pureV E (om E) 101 lent [imgV x] = some (w64 (x.data.length + x.zero.toNat + x.stack.toNat)) := by
 apply pu_101
 have := x.zero.toNat_lt; have := x.stack.toNat_lt
 simp (disch := omega) [if_pos, if_neg, iteK_pos, iteK_neg, Tryz.f101]
theorem RNames (lent) (l : List Export) (hl : l.length < 2 ^ 62) : pureV E (om E) 122 lent [lst eExport l] = some (bb (decide (l.length ≤ 64) && namesFrom l 0)) := by
 apply pu_122
 by_cases h64 : l.length ≤ 64
 ·simp (disch := omega) [if_pos, if_neg, iteK_pos, iteK_neg, Tryz.f122, h64]
  refine loop_chg (dyn := []) (fun n : Nat => [(3, ii n)]) (fun _ => []) (fun n => []) (fun n => n ≤ l.length ∧ namesFrom l 0 = namesFrom l n) (fun n => l.length - n) hint_122_0 (by kernel_rfl) ?_ 0 (by simp) (by simp)
  rintro n ⟨hn, hf⟩ IH
  rw [lpB_eq]
  by_cases h : n < l.length
  ·have hst : namesFrom l n = (nameOk l n && namesFrom l (n + 1)) := by rw [namesFrom, if_pos h]
   rw [hst] at hf
   have hok : nameOk l n = (decide (1 ≤ l[n].name.length ∧ l[n].name.length ≤ 32) && (decide (n = 0) || match l[n - 1]? with | none => false | some y => (!Op.bytesLess l[n].name y.name && !(l[n].name == y.name)))) := by
    unfold nameOk
    rw [List.getElem?_eq_getElem h]
    rfl
   by_cases h1 : 1 ≤ l[n].name.length
   ·by_cases h2 : l[n].name.length ≤ 32
    ·by_cases h3 : n = 0
     ·subst h3
      have : nameOk l 0 = true := by rw [hok]; simp; omega
      rw [this, Bool.true_and] at hf
      simp (disch := omega) [if_pos, if_neg, iteK_pos, iteK_neg, h, h1, h2]
      exact IH 1 _ _ ⟨by omega, hf⟩ (by omega) (by simp)
     ·have hN : ((n : Int) - 1).toNat = n - 1 := by omega
      have hp : n - 1 < l.length := by omega
      rw [List.getElem?_eq_getElem hp] at hok
      by_cases h4 : (Op.bytesLess l[n].name l[n - 1].name || l[n].name == l[n - 1].name) = true
      ·have : nameOk l n = false := by rw [hok]; simp only [Bool.or_eq_true] at h4; rcases h4 with h4 | h4 <;> simp [h4, h3]
       rw [this, Bool.false_and] at hf
       simp (disch := omega) [if_pos, if_neg, iteK_pos, iteK_neg, h, h1, h2, h3, hN, h4, hf]
      ·have h4' : (Op.bytesLess l[n].name l[n - 1].name || l[n].name == l[n - 1].name) = false := by simpa using h4
       have : nameOk l n = true := by rw [hok]; simp only [Bool.or_eq_false_iff] at h4'; simp [h4', h3, h1, h2]
       rw [this, Bool.true_and] at hf
       simp (disch := omega) [if_pos, if_neg, iteK_pos, iteK_neg, h, h1, h2, h3, hN, h4']
       exact IH (n + 1) _ _ ⟨by omega, hf⟩ (by omega) (by simp)
    ·have : nameOk l n = false := by rw [hok]; simp [h2]
     rw [this, Bool.false_and] at hf
     simp (disch := omega) [if_pos, if_neg, iteK_pos, iteK_neg, h, h1, h2, hf]
   ·have : nameOk l n = false := by rw [hok]; simp [h1]
    rw [this, Bool.false_and] at hf
    simp (disch := omega) [if_pos, if_neg, iteK_pos, iteK_neg, h, h1, hf]
  ·have hst : namesFrom l n = true := by rw [namesFrom, if_neg h]
   rw [hst] at hf
   simp (disch := omega) [if_pos, if_neg, iteK_pos, iteK_neg, h, hf]
 ·simp (disch := omega) [if_pos, if_neg, iteK_pos, iteK_neg, Tryz.f122, h64]
theorem RCheckI (lent) (x : Img) (h1 : x.code.length < 2 ^ 62) (h2 : x.jumps.length < 2 ^ 62) (h3 : x.data.length < 2 ^ 62) (h4 : x.names.length < 2 ^ 62) : pureV E (om E) 63 lent [imgV x] = some (ii (checkP x)) := by
 apply pu_63
 by_cases c1 : 16384 < x.code.length
 ·simp (disch := omega) [if_pos, if_neg, iteK_pos, iteK_neg, Tryz.f63, c1, checkP]
 simp (disch := omega) [if_pos, if_neg, iteK_pos, iteK_neg, Tryz.f63, c1]
 refine loop_chg (dyn := []) (fun n : Nat => [(3, ii n)]) (fun _ => []) (fun n => []) (fun i => i ≤ x.code.length ∧ codeFrom x.code 0 = codeFrom x.code i) (fun n => x.code.length - n) hint_63_0 (by kernel_rfl) ?_ 0 (by simp) (by simp)
 rintro i ⟨hi, hcf⟩ IH
 rw [lpB_eq]
 by_cases hlt : i < x.code.length
 ·have hst : codeFrom x.code i = if insBad x.code[i] ≠ 0 then insBad x.code[i] else codeFrom x.code (i + 1) := by rw [codeFrom, dif_pos hlt]
  rw [hst] at hcf
  by_cases hb : insBad x.code[i] = 0
  ·rw [if_neg (by simp [hb])] at hcf
   simp (disch := omega) [if_pos, if_neg, iteK_pos, iteK_neg, hlt, RCheck, hb]
   exact IH (i + 1) _ _ ⟨by omega, hcf⟩ (by omega) (by simp)
  ·rw [if_pos hb] at hcf
   have : checkP x = insBad x.code[i] := by unfold checkP; rw [if_neg c1, if_pos (by rw [hcf]; exact hb), hcf]
   rw [this]
   simp (disch := omega) [if_pos, if_neg, iteK_pos, iteK_neg, hlt, RCheck, hb]
 ·have hst : codeFrom x.code i = 0 := by rw [codeFrom, dif_neg hlt]
  rw [hst] at hcf
  clear IH
  have hW := fun lent => RWhole lent x (by omega)
  have hN := fun lent => RNames lent x.names h4
  by_cases c2 : 16384 < x.jumps.length
  ·simp (disch := omega) [if_pos, if_neg, iteK_pos, iteK_neg, hlt, c1, hcf, c2, checkP]
  by_cases c3 : stackOk x.stack = false
  ·simp (disch := omega) [if_pos, if_neg, iteK_pos, iteK_neg, hlt, c1, hcf, c2, c3, checkP, RStacks]
  replace c3 : stackOk x.stack = true := by simpa using c3
  by_cases c4 : 65536 < x.data.length + x.zero.toNat + x.stack.toNat
  ·simp (disch := omega) [if_pos, if_neg, iteK_pos, iteK_neg, hlt, c1, hcf, c2, c3, c4, checkP, RStacks, hW]
  by_cases c5 : 64 < x.names.length
  ·simp (disch := omega) [if_pos, if_neg, iteK_pos, iteK_neg, hlt, c1, hcf, c2, c3, c4, c5, checkP, RStacks, hW, hN]
  by_cases c6 : namesFrom x.names 0 = true
  ·simp (disch := omega) [if_pos, if_neg, iteK_pos, iteK_neg, hlt, c1, hcf, c2, c3, c4, c5, c6, checkP, RStacks, hW, hN]
  ·simp (disch := omega) [if_pos, if_neg, iteK_pos, iteK_neg, hlt, c1, hcf, c2, c3, c4, c5, c6, checkP, RStacks, hW, hN]
theorem RWord (x : UInt32) : pureV E (om E) 132 false [w32 x.toNat] = some (bs (bytes4 x)) := by
 apply pu_132
 have hP : ∀ lent, pureV E (om E) 169 lent [ii 4, .scon (V.canonL (cutCells [.int .u64 x.toNat] 0 1 1)) 0 1 false] = some (bs (bytes4 x)) := fun lent => RPut1 lent x
 simp (disch := omega) [if_pos, if_neg, iteK_pos, iteK_neg, Tryz.f132, hP]
def eBytes : Enc (List UInt8) where
 enc l := [bs l]
 k := 1
 pos := by omega
 len := fun _ => rfl
 canon := fun _ => by simp
 flat := fun _ => by simp
 ok := fun _ => by simp
@[simp] theorem eBytes_k : eBytes.k = 1 := rfl
@[simp] theorem eBytes_enc (s) : eBytes.enc s = [bs s] := rfl
theorem RJoin (lent) (ls : List (List UInt8)) (hl : ls.length < 2 ^ 20) (hs : ∀ l ∈ ls, l.length < 2 ^ 25) : pureV E (om E) 131 lent [lst eBytes ls] = some (bs ls.flatten) := by
 apply pu_131
 simp (disch := omega) [if_pos, if_neg, iteK_pos, iteK_neg, Tryz.f131]
 have hfl : ∀ i, i ≤ ls.length → (ls.take i).flatten.length ≤ i * 2 ^ 25 := fun i => by
  induction i with
  | zero => intro _; simp
  | succ i ih =>
   intro hi
   have := ih (by omega)
   rw [take_snoc (by omega), List.flatten_append]
   have h2 := hs _ (List.getElem_mem (show i < ls.length by omega))
   simp only [List.length_append, List.flatten_cons, List.flatten_nil, List.append_nil]
   omega
 refine loop_chg (dyn := []) (fun n : Nat => [(3, .sref 0 0 0 (ls.take n).flatten.length (ls.take n).flatten.length (1, false)), (4, ii n)]) (fun _ => []) (fun n => [.row (cat eU8 (ls.take n).flatten) (ls.take n).flatten.length 1 true true]) (fun n => n ≤ ls.length) (fun n => ls.length - n) hint_131_0 (by kernel_rfl) ?_ 0 (by simp) (by simp)
 intro n hn IH
 rw [lpB_eq]
 by_cases h : n < ls.length
 ·have h1 := hfl n hn
  have h2 := hs _ (List.getElem_mem h)
  have hsn : (ls.take (n + 1)).flatten = (ls.take n).flatten ++ ls[n] := by rw [take_snoc h, List.flatten_append]; simp
  obtain ⟨p, hp⟩ : ∃ p, p = (ls.take n).flatten := ⟨_, rfl⟩
  rw [← hp] at h1 hsn ⊢
  simp (disch := omega) [if_pos, if_neg, iteK_pos, iteK_neg, h]
  refine loop_chg (dyn := []) (fun k : Nat => [(3, .sref 0 0 0 (p.length + k) (p.length + k) (1, false)), (5, ii k)]) (fun k => [(0, 0, .row (cat eU8 (p ++ ls[n].take k)) (p.length + k) 1 true true)]) (fun k => []) (fun k => k ≤ ls[n].length) (fun k => ls[n].length - k) hint_131_1 (by kernel_rfl) ?_ 0 (by simp) (by simp)
  intro k hk IH2
  rw [lpB_eq]
  by_cases hkl : k < ls[n].length
  ·simp (disch := omega) [if_pos, if_neg, iteK_pos, iteK_neg, h, hkl]
   refine IH2 (k + 1) _ _ (by omega) (by omega) ?_
   rw [take_snoc hkl, ← List.append_assoc, cat_append _ (p ++ ls[n].take k), List.take_of_length_le (l := p ++ ls[n].take k) (by simp; omega)]
   simp [cat_cons, Nat.add_assoc]
  ·obtain rfl : k = ls[n].length := by omega
   simp (disch := omega) [if_pos, if_neg, iteK_pos, iteK_neg, h]
   refine IH (n + 1) _ _ (by omega) (by omega) ?_
   rw [hsn]
   simp
 ·obtain rfl : n = ls.length := by omega
  simp (disch := omega) [if_pos, if_neg, iteK_pos, iteK_neg]
  exact res_lst' eU8 rfl (by simp [List.length_flatten]) rfl
theorem RParts (x : Img) (hc : checkP x = 0) : pureV E (om E) 130 false [imgV x] = some (.scon [bs (encI x.code), bs (words x.jumps), bs x.data, bs (namesB x.names)] 0 4 false) := by
 apply pu_130
 obtain ⟨c1, c2, c3, c4, c5, c6, c7⟩ := check_ok hc
 have s := sizes hc
 have hE := fun lent => REncode lent x.code c1 (code_all hc)
 have hng : ∀ j (hj : j < x.names.length), 1 ≤ x.names[j].name.length ∧ x.names[j].name.length ≤ 32 := fun j hj => name_len hj (names_good c7 j (Nat.zero_le j) hj)
 have hJ2 : ∀ lent a b, a.length < 2 ^ 25 → b.length < 2 ^ 25 → pureV E (om E) 131 lent [.scon (V.canonL (cutCells [bs a, bs b] 0 2 1)) 0 2 false] = some (bs (a ++ b)) := fun lent a b ha hb => by
  rw [show V.canonL (cutCells [bs a, bs b] 0 2 1) = [bs a, bs b] by simp [cutCells]]
  have := RJoin lent [a, b] (by simp) (by simp; omega)
  rw [show [a, b].flatten = a ++ b by simp] at this
  exact this
 simp (disch := omega) [if_pos, if_neg, iteK_pos, iteK_neg, Tryz.f130, hE]
 refine loop_chg (dyn := []) (fun n : Nat => [(6, bs (words (x.jumps.take n))), (7, ii n)]) (fun _ => []) (fun n => []) (fun n => n ≤ x.jumps.length) (fun n => x.jumps.length - n) hint_130_0 (by kernel_rfl) ?_ 0 (by simp) (by simp [words])
 intro n hn IH
 rw [lpB_eq]
 by_cases h : n < x.jumps.length
 ·have hsn : words (x.jumps.take (n + 1)) = words (x.jumps.take n) ++ bytes4 x.jumps[n] := by rw [take_snoc h, words_append]; simp [words]
  have hwl : (words (x.jumps.take n)).length = 4 * n := by rw [words_length]; simp; omega
  have hJ := fun lent => hJ2 lent (words (x.jumps.take n)) (bytes4 x.jumps[n]) (by omega) (by simp)
  rw [← hsn] at hJ
  simp (disch := omega) [if_pos, if_neg, iteK_pos, iteK_neg, h, RWord, hJ]
  exact IH (n + 1) _ _ (by omega) (by omega) (by simp)
 ·obtain rfl : n = x.jumps.length := by omega
  clear IH
  have hJ4 : ∀ lent a b c d, a.length < 2 ^ 25 → b.length < 2 ^ 25 → c.length < 2 ^ 25 → d.length < 2 ^ 25 → pureV E (om E) 131 lent [.scon [bs a, bs b, bs c, bs d] 0 4 false] = some (bs (a ++ b ++ c ++ d)) := fun lent a b c d ha hb hc hd => by
   have := RJoin lent [a, b, c, d] (by simp) (by simp; omega)
   rw [show [a, b, c, d].flatten = a ++ b ++ c ++ d by simp] at this
   exact this
  simp (disch := omega) [if_pos, if_neg, iteK_pos, iteK_neg]
  refine loop_chg (dyn := []) (fun n : Nat => [(8, bs (namesB (x.names.take n))), (9, ii n)]) (fun _ => []) (fun n => []) (fun n => n ≤ x.names.length) (fun n => x.names.length - n) hint_130_1 (by kernel_rfl) ?_ 0 (by simp) (by simp [namesB])
  intro n hn IH
  rw [lpB_eq]
  by_cases h : n < x.names.length
  ·obtain ⟨m1, m2⟩ := hng n h
   have hsn : namesB (x.names.take (n + 1)) = namesB (x.names.take n) ++ bytes4 x.names[n].place ++ [UInt8.ofNat x.names[n].name.length] ++ x.names[n].name := by
    rw [take_snoc h]; unfold namesB; rw [List.flatMap_append, List.flatMap_singleton]; simp [nameB]
   have hnl : (namesB (x.names.take n)).length ≤ 37 * 64 := by
    have := namesB_len (l := x.names.take n) fun a ha => by
     obtain ⟨j, hj, rfl⟩ := List.mem_iff_getElem.1 (List.mem_of_mem_take ha)
     exact (hng j hj).2
    have h2 : (x.names.take n).length ≤ 64 := by simp; omega
    omega
   have hJ := fun lent => hJ4 lent (namesB (x.names.take n)) (bytes4 x.names[n].place) [UInt8.ofNat x.names[n].name.length] x.names[n].name (by omega) (by simp) (by simp) (by omega)
   rw [← hsn] at hJ
   have hmu : List.map u8 x.names[n].name = cat eU8 x.names[n].name := (cat_map8e _).symm
   have hu8 : (UInt8.ofNat x.names[n].name.length).toNat = x.names[n].name.length := by rw [UInt8.toNat_ofNat', Nat.mod_eq_of_lt (by omega)]
   have e4 : V.canonL (cutCells [lst eU8 (namesB (x.names.take n)), lst eU8 (bytes4 x.names[n].place), V.scon (cutCells [V.int IntKind.u8 x.names[n].name.length] 0 1 1) 0 1 true, V.scon (List.map u8 x.names[n].name) 0 x.names[n].name.length false] 0 4 1) =
     [bs (namesB (x.names.take n)), bs (bytes4 x.names[n].place), bs [UInt8.ofNat x.names[n].name.length], bs x.names[n].name] := by
    rw [hmu]
    simp [cutCells]
    show V.scon [w8 x.names[n].name.length] 0 1 false = V.scon [w8 (UInt8.ofNat x.names[n].name.length).toNat] 0 1 false
    rw [hu8]
   have hJ' : ∀ lent, pureV E (om E) 131 lent [.scon (V.canonL (cutCells [lst eU8 (namesB (x.names.take n)), lst eU8 (bytes4 x.names[n].place), V.scon (cutCells [V.int IntKind.u8 x.names[n].name.length] 0 1 1) 0 1 true, V.scon (List.map u8 x.names[n].name) 0 x.names[n].name.length false] 0 4 1)) 0 4 false] = some (bs (namesB (x.names.take (n + 1)))) := fun lent => by rw [e4]; exact hJ lent
   simp (disch := omega) [if_pos, if_neg, iteK_pos, iteK_neg, h, RWord, hJ']
   exact IH (n + 1) _ _ (by omega) (by omega) (by simp)
  ·obtain rfl : n = x.names.length := by omega
   simp (disch := omega) [if_pos, if_neg, iteK_pos, iteK_neg]
   simp [cutCells]
end Go.Proofs.YthiciofacaeddaaGreat
end
section
namespace Go.Proofs.YthiciofacaeddaaGreat
open Go Go.Sim
set_option maxRecDepth 100000
set_option maxHeartbeats 0
set_option linter.unusedSimpArgs false
set_option linter.unusedVariables false

theorem ROne (lent) (l : List UInt8) (at_ : Nat) (hl : l.length < 2 ^ 40) (h : at_ < l.length) : pureV E (om E) 178 lent [bs l, ii at_] = some (readV (readI l at_)) := by
 apply pu_178
 obtain ⟨hw, hm, hp⟩ := rowOf_some l[at_]
 by_cases h1 : isOp l[at_].toNat = true
 ·by_cases h2 : l.length < at_ + 1 + (rowOf l[at_].toNat).width
  ·simp (disch := omega) [if_pos, if_neg, iteK_pos, iteK_neg, Tryz.f178, RInfo, h1, h2, readI]
  ·obtain ⟨w, hww⟩ : ∃ w, w = (rowOf l[at_].toNat).width := ⟨_, rfl⟩
   have hr : readI l at_ = if (rowOf l[at_].toNat).most < argUp l at_ w 0 then .error 71 else .ok (⟨l[at_], UInt32.ofNat (argUp l at_ w 0)⟩, 1 + w) := by
    have hb : l.getD at_ 0 = l[at_] := by rw [List.getD, List.getElem?_eq_getElem h]; rfl
    simp only [readI, hb, h1, if_true, if_neg h2, hww]
   rw [hr]
   clear hr
   rw [← hww] at hw hp h2
   simp (disch := omega) [if_pos, if_neg, iteK_pos, iteK_neg, Tryz.f178, RInfo, h1, ← hww]
   refine loop_chg (dyn := []) (fun a : Nat × Nat => [(9, .int .u32 a.2), (10, ii a.1)]) (fun _ => []) (fun _ => []) (fun a => a.1 ≤ w ∧ a.2 < 256 ^ (w - a.1) ∧ argUp l at_ a.1 a.2 = argUp l at_ w 0) (fun a => a.1) hint_178_0 (by kernel_rfl) ?_ (w, 0) ⟨by simp, by simp, rfl⟩ (by simp)
   rintro ⟨i, x⟩ ⟨hi, hx, hf⟩ IH
   dsimp only at hi hx hf ⊢
   rw [lpB_eq]
   cases i with
   | zero =>
    have hx4 : x < 4294967296 := Nat.lt_of_lt_of_le hx (Nat.pow_le_pow_right (n := 256) (i := w - 0) (j := 4) (by omega) (by omega))
    clear IH
    rw [argUp] at hf
    by_cases h3 : (rowOf l[at_].toNat).most < x
    ·simp (disch := omega) [if_pos, if_neg, iteK_pos, iteK_neg, h3, ← hf, ← hww]
    ·simp (disch := omega) [if_pos, if_neg, iteK_pos, iteK_neg, h3, ← hf, ← hww]
     rw [iteK_pos (by kernel_rfl)]
     simp (disch := omega) [if_pos, if_neg, iteK_pos, iteK_neg, ← hww]
     omega
   | succ i =>
    have hx4 : x < 16777216 := Nat.lt_of_lt_of_le hx (Nat.pow_le_pow_right (n := 256) (i := w - (i + 1)) (j := 3) (by omega) (by omega))
    rw [argUp] at hf
    have hb : (l.getD (at_ + (i + 1)) 0) = l[at_ + (i + 1)] := by rw [List.getD, List.getElem?_eq_getElem (by omega)]; rfl
    rw [hb] at hf
    have := l[at_ + (i + 1)].toNat_lt
    have hpw : 256 ^ (w - i) = 256 ^ (w - (i + 1)) * 256 := by rw [← Nat.pow_succ]; congr 1; omega
    have hN : ((at_ : Int) + ((i : Int) + 1)).toNat = at_ + (i + 1) := by omega
    simp (disch := omega) [if_pos, if_neg, iteK_pos, iteK_neg, hN]
    refine IH (i, x * 256 + l[at_ + (i + 1)].toNat) _ _ ⟨by dsimp only; omega, by dsimp only; omega, hf⟩ (by dsimp only; omega) ?_
    simp (disch := omega) [if_pos, if_neg, iteK_pos, iteK_neg]
 ·simp (disch := omega) [if_pos, if_neg, iteK_pos, iteK_neg, Tryz.f178, RInfo, h1, readI]
noncomputable def plcI (l : List UInt8) (at_ n : Nat) : List Int :=
 if at_ < l.length then
  if n < 16384 then
   match readI l at_ with
   | .error e => []
   | .ok (i, k) => (at_ : Int) :: plcI l (at_ + k) (n + 1)
  else []
 else []
termination_by 16384 - n
theorem RWalk (lent) (l : List UInt8) (hl : l.length < 2 ^ 40) : pureV E (om E) 152 lent [bs l] = some (.tuple [lst Fl.eI (plcI l 0 0), lst eInstr (decI l 0 0).1, ii (decI l 0 0).2.1, ii (decI l 0 0).2.2]) := by
 apply pu_152
 generalize hD : decI l 0 0 = D
 generalize hP : plcI l 0 0 = PL
 have hD1 : D.1 = (decI l 0 0).1 := by rw [hD]
 have hD2 : D.2 = (decI l 0 0).2 := by rw [hD]
 have hP1 : PL = plcI l 0 0 := hP.symm
 clear hD hP
 simp (disch := omega) [if_pos, if_neg, iteK_pos, iteK_neg, Tryz.f152]
 refine loop_chg (dyn := []) (fun a : List Int × List Instr × Nat => [(6, .sref 0 0 0 a.2.1.length a.2.1.length (1, false)), (7, .sref 0 1 0 a.2.1.length a.2.1.length (2, false)), (8, ii a.2.2)]) (fun _ => []) (fun a => [.row (cat Fl.eI a.1) a.2.1.length 1 true true, .row (cat eInstr a.2.1) a.2.1.length 2 true true])
  (fun a => a.1.length = a.2.1.length ∧ a.2.1.length ≤ 16384 ∧ a.2.2 < 2 ^ 41 ∧ D.1 = a.2.1 ++ (decI l a.2.2 a.2.1.length).1 ∧ D.2 = (decI l a.2.2 a.2.1.length).2 ∧ PL = a.1 ++ plcI l a.2.2 a.2.1.length) (fun a => 16384 - a.2.1.length) hint_152_0 (by kernel_rfl) ?_ ([], [], 0) ⟨rfl, by simp, by simp, by simpa using hD1, by simpa using hD2, by simpa using hP1⟩ (by simp)
 clear hD1 hD2 hP1
 rintro ⟨pl, acc, at_⟩ ⟨hpl, hn, ha, h1, h2, h3⟩ IH
 dsimp only at hpl hn ha h1 h2 h3 ⊢
 rw [lpB_eq]
 rw [decI] at h1 h2
 rw [plcI] at h3
 have hrp : V.scon (V.canonL (cutCells (cat Fl.eI pl) 0 acc.length 1)) 0 acc.length false = lst Fl.eI pl := res_lst' Fl.eI rfl hpl.symm rfl
 have htp : List.take acc.length pl = pl := List.take_of_length_le (by omega)
 have hra : V.scon (V.canonL (cutCells (cat eInstr acc) 0 acc.length 2)) 0 acc.length false = lst eInstr acc := res_lst' eInstr rfl rfl rfl
 by_cases hlt : at_ < l.length
 ·rw [if_pos hlt] at h1 h2 h3
  by_cases hn' : acc.length < 16384
  ·rw [if_pos hn'] at h1 h2 h3
   have hne : ¬ acc.length = 16384 := by omega
   have hO := fun lent => ROne lent l at_ hl hlt
   cases hr : readI l at_ with
   | error e =>
    rw [hr] at h1 h2 h3 hO
    have := readI_err hr
    dsimp only at h1 h2 h3
    simp only [List.append_nil] at h1 h3
    simp (disch := omega) [if_pos, if_neg, iteK_pos, iteK_neg, hlt, hne, hO, hrp]
    rw [h1, h2, h3]
    simp [hrp]
   | ok q =>
    obtain ⟨i, k⟩ := q
    rw [hr] at h1 h2 h3 hO
    have := readI_ok hr
    dsimp only at this
    simp (disch := omega) [if_pos, if_neg, iteK_pos, iteK_neg, hlt, hne, hO]
    refine IH (pl ++ [(at_ : Int)], acc ++ [i], at_ + k) _ _ ⟨by simp [hpl], by simp; omega, by dsimp only; omega, by simp [h1], by simp [h2], by simp [h3]⟩ (by simp; omega) (by simp [cat_append, cat_cons, hpl, htp])
  ·rw [if_neg hn'] at h1 h2 h3
   have hn2 : acc.length = 16384 := by omega
   simp only [List.append_nil] at h1 h3
   rw [hn2] at hrp hra
   simp (disch := omega) [if_pos, if_neg, iteK_pos, iteK_neg, hlt, hn2, hrp, hra]
   rw [h1, h2, h3]
   simp [hrp, hra]
 ·rw [if_neg hlt] at h1 h2 h3
  simp only [List.append_nil] at h1 h3
  simp (disch := omega) [if_pos, if_neg, iteK_pos, iteK_neg, hlt, hrp]
  rw [h1, h2, h3]
  simp [hrp]
theorem RDecode (l : List UInt8) (hl : l.length < 2 ^ 40) : pureV E (om E) 98 false [bs l] = some (decV (decI l 0 0)) := by
 apply pu_98
 have hW := fun lent => RWalk lent l hl
 generalize decI l 0 0 = D at *
 obtain ⟨acc, at_, e⟩ := D
 by_cases he : e = 0
 ·simp (disch := omega) [if_pos, if_neg, iteK_pos, iteK_neg, Tryz.f98, hW, he]
 ·simp (disch := omega) [if_pos, if_neg, iteK_pos, iteK_neg, Tryz.f98, hW, he]
end Go.Proofs.YthiciofacaeddaaGreat
end
