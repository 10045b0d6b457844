/-
 The document's answer for layer 8: Encode; the header.
 The document's image read from bytes: the header, the spans.
 The document's image read from bytes: the spans, the names.
-/
import Derived.Test.YthiciofacaeddaaGreatRb
import Derived.Test.YthiciofacaeddaaGreatIc
section
namespace Go.Proofs.YthiciofacaeddaaGreat
open Go Go.Sim
set_option maxRecDepth 100000
set_option maxHeartbeats 0
set_option linter.unusedSimpArgs false
set_option linter.unusedVariables false

theorem with4_twice (l : List UInt8) (x y : UInt32) (h : 12 ≤ l.length) : with4 (with4 l 8 x) 8 y = with4 l 8 y := by
 have hl := with4_length (l := l) (n := 8) x (by omega)
 apply List.ext_getElem
 ·rw [with4_length _ (by omega), hl, with4_length _ (by omega)]
 ·intro i h1 h2
  apply UInt8.toNat_inj.1
  rw [with4_at8 _ y (by omega), with4_at8 l y h]
  split
  ·rfl
  ·rename_i hc
   rw [with4_at8 l x h, if_neg hc]
theorem RSumH (lent) (l : List UInt8) (hl : l.length < 2 ^ 40) (h : 12 ≤ l.length) : pureV E (om E) 147 lent [bs l] = some (w32 (adler (with4 l 8 0)).toNat) := by
 apply pu_147
 have hW : ∀ lent, pureV E (om E) 170 lent [ii 4, bs l, ii 8, .int .u64 0] = some (.tuple [bs (with4 l 8 0), ii 0]) := fun lent => RWith lent l 0 hl h
 have hlen := with4_length (l := l) (n := 8) 0 (by omega)
 have hS := fun lent => RSum lent (with4 l 8 0) (by omega)
 simp (disch := omega) [if_pos, if_neg, iteK_pos, iteK_neg, Tryz.f147, hW, hS]
theorem RSealed (l : List UInt8) (hl : l.length < 2 ^ 40) (h : 12 ≤ l.length) : pureV E (om E) 133 false [bs l] = some (bs (sealP l)) := by
 apply pu_133
 have hx := (adler (with4 l 8 0)).toNat_lt
 have hW := fun lent => RWith lent l (adler (with4 l 8 0)) hl h
 have hS := fun lent => RSumH lent l hl h
 have e : sealP l = with4 l 8 (adler (with4 l 8 0)) := with4_twice l 0 _ h
 rw [e]
 simp (disch := omega) [if_pos, if_neg, iteK_pos, iteK_neg, Tryz.f133, hW, hS]
theorem RAt08 (lent) (l : List UInt8) (n : Nat) (hl : l.length < 2 ^ 40) (h : n + 4 ≤ l.length) : pureV E (om E) 99 lent [bs l, ii n] = some (w32 (wordAt l n).toNat) := by
 apply pu_99
 have hx := (wordAt l n).toNat_lt
 have hA := fun lent => RAt lent l n hl h
 simp (disch := omega) [if_pos, if_neg, iteK_pos, iteK_neg, Tryz.f99, hA]
theorem RWordN (n : Nat) (h : n < 4294967296) : pureV E (om E) 132 false [.int .u32 n] = some (bs (bytes4 (UInt32.ofNat n))) := by
 have := RWord (UInt32.ofNat n)
 rw [UInt32.toNat_ofNat', Nat.mod_eq_of_lt h] at this
 exact this
theorem RJoin3 (lent) (a b c : List UInt8) (ha : a.length < 2 ^ 25) (hb : b.length < 2 ^ 25) (hc : c.length < 2 ^ 25) : pureV E (om E) 131 lent [.scon (V.canonL (cutCells [bs a, bs b, bs c] 0 3 1)) 0 3 false] = some (bs (a ++ (b ++ c))) := by
 rw [show V.canonL (cutCells [bs a, bs b, bs c] 0 3 1) = [bs a, bs b, bs c] by simp [cutCells]]
 have := RJoin lent [a, b, c] (by simp) (by simp; omega)
 rw [show [a, b, c].flatten = a ++ (b ++ c) by simp] at this
 exact this
theorem RJoin9 (lent) (a b c d e f g h i : List UInt8) (ha : a.length < 2 ^ 25) (hb : b.length < 2 ^ 25) (hc : c.length < 2 ^ 25) (hd : d.length < 2 ^ 25) (he : e.length < 2 ^ 25) (hf : f.length < 2 ^ 25) (hg : g.length < 2 ^ 25) (hh : h.length < 2 ^ 25) (hi : i.length < 2 ^ 25) :
  pureV E (om E) 131 lent [.scon (V.canonL (cutCells [bs a, bs b, bs c, bs d, bs e, bs f, bs g, bs h, bs i] 0 9 1)) 0 9 false] = some (bs (a ++ (b ++ (c ++ (d ++ (e ++ (f ++ (g ++ (h ++ i))))))))) := by
 rw [show V.canonL (cutCells [bs a, bs b, bs c, bs d, bs e, bs f, bs g, bs h, bs i] 0 9 1) = [bs a, bs b, bs c, bs d, bs e, bs f, bs g, bs h, bs i] by simp [cutCells]]
 have := RJoin lent [a, b, c, d, e, f, g, h, i] (by simp) (by simp; omega)
 rw [show [a, b, c, d, e, f, g, h, i].flatten = a ++ (b ++ (c ++ (d ++ (e ++ (f ++ (g ++ (h ++ i))))))) by simp] at this
 exact this
theorem RJoinH (lent) (b c d : List UInt8) (hb : b.length < 2 ^ 25) (hc : c.length < 2 ^ 25) (hd : d.length < 2 ^ 25) :
  pureV E (om E) 131 lent [.scon (V.canonL (cutCells [.scon (cutCells [V.int .u8 80, V.int .u8 69, V.int .u8 78, V.int .u8 33] 0 4 1) 0 4 true, bs b, bs c, bs d] 0 4 1)) 0 4 false] = some (bs ([80, 69, 78, 33] ++ (b ++ (c ++ d)))) := by
 rw [show V.canonL (cutCells [.scon (cutCells [V.int .u8 80, V.int .u8 69, V.int .u8 78, V.int .u8 33] 0 4 1) 0 4 true, bs b, bs c, bs d] 0 4 1) = [bs [80, 69, 78, 33], bs b, bs c, bs d] by simp [cutCells]; rfl]
 have := RJoin lent [[80, 69, 78, 33], b, c, d] (by simp) (by simp; omega)
 rw [show [[80, 69, 78, 33], b, c, d].flatten = [80, 69, 78, 33] ++ (b ++ (c ++ d)) by simp] at this
 exact this
def atH (ls : List (List UInt8)) : Nat → Nat
 | 0 => 64
 | i + 1 => atH ls i + (ls.getD i []).length
def headH (h : List UInt8) (ls : List (List UInt8)) : Nat → List UInt8
 | 0 => h
 | i + 1 => headH h ls i ++ (bytes4 (UInt32.ofNat (atH ls i)) ++ bytes4 (UInt32.ofNat (ls.getD i []).length))
theorem headH_len (h : List UInt8) (ls : List (List UInt8)) : ∀ i, (headH h ls i).length = h.length + 8 * i
 | 0 => rfl
 | i + 1 => by rw [headH]; simp [headH_len h ls i]; omega
theorem REncodeI (x : Img) (hc : checkP x = 0) : pureV E (om E) 75 false [imgV x] = some (.tuple [bs (encP x), ii 0]) := by
 apply pu_75
 obtain ⟨c1, c2, c3, c4, c5, c6, c7⟩ := check_ok hc
 have s := sizes hc
 have sl := encF_len x
 have hC := fun lent => RCheckI lent x (by omega) (by omega) (by omega) (by omega)
 simp only [hc] at hC
 have hP := RParts x hc
 have w0 : pureV E (om E) 132 false [.int .u32 0] = some (bs (bytes4 0)) := RWord 0
 have w1 : pureV E (om E) 132 false [.int .u32 1] = some (bs (bytes4 1)) := RWord 1
 have wn := RWordN x.code.length (by omega)
 have hJ3 := fun lent a b c ha => RJoin3 lent a (bytes4 b) (bytes4 c) ha (by simp) (by simp)
 have hJH := fun lent => RJoinH lent (bytes4 1) (bytes4 0) (bytes4 (UInt32.ofNat x.code.length)) (by simp) (by simp) (by simp)
 obtain ⟨s1, s2, s3, s4, s5⟩ := s
 have hS := RSealed (encF x) (by omega) (by omega)
 have h64 : (64 : Int).toNat = 64 := rfl
 have hF : encF x = _ := rfl
 conv at hF => rhs; unfold encF
 simp only [words, List.append_nil, List.append_assoc] at hF
 unfold encP
 generalize encF x = F at *
 generalize encI x.code = A at *
 generalize words x.jumps = B at *
 generalize namesB x.names = D at *
 have k1 : (64 + (A.length : Int)).toNat = 64 + A.length := by omega
 have k2 : (64 + (A.length : Int) + B.length).toNat = 64 + A.length + B.length := by omega
 have k3 : (64 + (A.length : Int) + B.length + x.data.length).toNat = 64 + A.length + B.length + x.data.length := by omega
 simp (disch := omega) [if_pos, if_neg, iteK_pos, iteK_neg, Tryz.f75, hC, hP, w0, w1, wn, hJH]
 refine loop_chg (dyn := []) (fun n : Nat => [(6, bs (headH (80 :: 69 :: 78 :: 33 :: (bytes4 1 ++ (bytes4 0 ++ bytes4 (UInt32.ofNat x.code.length)))) [A, B, x.data, D] n)), (7, .int .u32 (atH [A, B, x.data, D] n)), (8, ii n)]) (fun _ => []) (fun n => []) (fun n => n ≤ 4) (fun n => 4 - n) hint_75_0 (by kernel_rfl) ?_ 0 (by simp) (by simp [headH, atH])
 intro n hn IH
 rw [lpB_eq]
 have hhl := headH_len (80 :: 69 :: 78 :: 33 :: (bytes4 1 ++ (bytes4 0 ++ bytes4 (UInt32.ofNat x.code.length)))) [A, B, x.data, D] n
 by_cases hlt : n < 4
 ·have hat : atH [A, B, x.data, D] n ≤ 2 ^ 20 := by
   have : n = 0 ∨ n = 1 ∨ n = 2 ∨ n = 3 := by omega
   rcases this with rfl | rfl | rfl | rfl <;> simp [atH, List.getD] <;> omega
  have hlen4 : ∀ l, l = [A, B, x.data, D].getD n [] → l.length ≤ 2 ^ 20 := by
   intro l hl
   have : n = 0 ∨ n = 1 ∨ n = 2 ∨ n = 3 := by omega
   rcases this with rfl | rfl | rfl | rfl <;> simp [List.getD] at hl <;> subst hl <;> omega
  have e1 := headH.eq_2 (80 :: 69 :: 78 :: 33 :: (bytes4 1 ++ (bytes4 0 ++ bytes4 (UInt32.ofNat x.code.length)))) [A, B, x.data, D] n
  have e2 := atH.eq_2 [A, B, x.data, D] n
  have hg : ∀ h, ([bs A, bs B, bs x.data, bs D] : List V)[n]'h = bs ([A, B, x.data, D].getD n []) := by
   have : n = 0 ∨ n = 1 ∨ n = 2 ∨ n = 3 := by omega
   rcases this with rfl | rfl | rfl | rfl <;> intro h <;> rfl
  generalize headH (80 :: 69 :: 78 :: 33 :: (bytes4 1 ++ (bytes4 0 ++ bytes4 (UInt32.ofNat x.code.length)))) [A, B, x.data, D] n = H at *
  generalize atH [A, B, x.data, D] n = a at *
  have hl := hlen4 _ rfl
  generalize [A, B, x.data, D].getD n [] = l at *
  have wa := RWordN a (by omega)
  have wl := RWordN l.length (by omega)
  have hJ := fun lent => hJ3 lent H (UInt32.ofNat a) (UInt32.ofNat l.length) (by rw [hhl]; simp; omega)
  simp (disch := omega) [if_pos, if_neg, iteK_pos, iteK_neg, hlt, hg, wa, wl, hJ]
  refine IH (n + 1) _ _ (by omega) (by omega) ?_
  rw [e1, e2]
  simp
 ·obtain rfl : n = 4 := by omega
  have wz := RWord x.zero
  have ws' := RWord x.stack
  have hJ9 := fun lent => RJoin9 lent (headH (80 :: 69 :: 78 :: 33 :: (bytes4 1 ++ (bytes4 0 ++ bytes4 (UInt32.ofNat x.code.length)))) [A, B, x.data, D] 4) (bytes4 x.zero) (bytes4 x.stack) (bytes4 0) (bytes4 0) A B x.data D (by rw [hhl]; simp) (by simp) (by simp) (by simp) (by simp) (by omega) (by omega) (by omega) (by omega)
  have hFin : headH (80 :: 69 :: 78 :: 33 :: (bytes4 1 ++ (bytes4 0 ++ bytes4 (UInt32.ofNat x.code.length)))) [A, B, x.data, D] 4 ++ (bytes4 x.zero ++ (bytes4 x.stack ++ (bytes4 0 ++ (bytes4 0 ++ (A ++ (B ++ (x.data ++ D))))))) = F := by
   rw [hF]
   simp [headH, atH, List.getD]
  rw [hFin] at hJ9
  generalize headH (80 :: 69 :: 78 :: 33 :: (bytes4 1 ++ (bytes4 0 ++ bytes4 (UInt32.ofNat x.code.length)))) [A, B, x.data, D] 4 = H at *
  clear hF hFin hJ3 hJH wn w1 hP hC k1 k2 k3 c1 c2 c3 c4 c5 c6 c7 s1 s2 s3 s4 s5 IH hn hhl hlt sl h64
  simp (maxSteps := 3000000) (disch := omega) [if_pos, if_neg, iteK_pos, iteK_neg, wz, ws', w0, hJ9, hS]
end Go.Proofs.YthiciofacaeddaaGreat
end
section
namespace Go.Proofs.YthiciofacaeddaaGreat
open Go Go.Sim
set_option maxRecDepth 100000
set_option maxHeartbeats 0
set_option linter.unusedSimpArgs false
set_option linter.unusedVariables false

def head8 (l : List UInt8) : Nat × Nat :=
 if l.length < 64 then (l.length, 80) else if 1048576 < l.length then (1048576, 80)
 else if (wordAt l 0).toNat ≠ 558777680 then (0, 80)
 else if (wordAt l 4).toNat ≠ 1 then (4, 81)
 else if (wordAt l 8).toNat ≠ (adler (with4 l 8 0)).toNat then (8, 82)
 else if (wordAt l 56).toNat ≠ 0 then (56, 88)
 else if (wordAt l 60).toNat ≠ 0 then (60, 88)
 else (0, 0)
theorem RHead (lent) (l : List UInt8) (hl : l.length < 2 ^ 62) : pureV E (om E) 94 lent [bs l] = some (headV (head8 l)) := by
 apply pu_94
 unfold head8
 by_cases h1 : l.length < 64
 ·simp (disch := omega) [if_pos, if_neg, iteK_pos, iteK_neg, Tryz.f94, h1]
 by_cases h2 : 1048576 < l.length
 ·simp (disch := omega) [if_pos, if_neg, iteK_pos, iteK_neg, Tryz.f94, h1, h2]
 have a0 : ∀ lent, pureV E (om E) 99 lent [bs l, ii 0] = some (w32 (wordAt l 0).toNat) := fun lent => RAt08 lent l 0 (by omega) (by omega)
 have a4 : ∀ lent, pureV E (om E) 99 lent [bs l, ii 4] = some (w32 (wordAt l 4).toNat) := fun lent => RAt08 lent l 4 (by omega) (by omega)
 have a8 : ∀ lent, pureV E (om E) 99 lent [bs l, ii 8] = some (w32 (wordAt l 8).toNat) := fun lent => RAt08 lent l 8 (by omega) (by omega)
 have a56 : ∀ lent, pureV E (om E) 99 lent [bs l, ii 56] = some (w32 (wordAt l 56).toNat) := fun lent => RAt08 lent l 56 (by omega) (by omega)
 have a60 : ∀ lent, pureV E (om E) 99 lent [bs l, ii 60] = some (w32 (wordAt l 60).toNat) := fun lent => RAt08 lent l 60 (by omega) (by omega)
 have hS := fun lent => RSumH lent l (by omega) (by omega)
 rw [if_neg h1, if_neg h2]
 generalize (wordAt l 0).toNat = v0 at *
 generalize (wordAt l 4).toNat = v4 at *
 generalize (wordAt l 8).toNat = v8 at *
 generalize (wordAt l 56).toNat = v56 at *
 generalize (wordAt l 60).toNat = v60 at *
 generalize (adler (with4 l 8 0)).toNat = vs at *
 by_cases h3 : v0 = 558777680
 ·subst h3
  by_cases h4 : v4 = 1
  ·subst h4
   by_cases h5 : v8 = vs
   ·subst h5
    by_cases h6 : v56 = 0
    ·subst h6
     by_cases h7 : v60 = 0
     ·subst h7
      simp (disch := omega) [if_pos, if_neg, iteK_pos, iteK_neg, Tryz.f94, h1, h2, a0, a4, a8, a56, a60, hS]
     ·have h7' : ¬ (v60 : Int) = 0 := by omega
      simp (disch := omega) [if_pos, if_neg, iteK_pos, iteK_neg, Tryz.f94, h1, h2, a0, a4, a8, a56, a60, hS, h7, h7']
    ·have h6' : ¬ (v56 : Int) = 0 := by omega
     simp (disch := omega) [if_pos, if_neg, iteK_pos, iteK_neg, Tryz.f94, h1, h2, a0, a4, a8, a56, a60, hS, h6, h6']
   ·have h5' : ¬ (v8 : Int) = (vs : Int) := by omega
    simp (disch := omega) [if_pos, if_neg, iteK_pos, iteK_neg, Tryz.f94, h1, h2, a0, a4, a8, a56, a60, hS, h5, h5']
  ·have h4' : ¬ (v4 : Int) = 1 := by omega
   simp (disch := omega) [if_pos, if_neg, iteK_pos, iteK_neg, Tryz.f94, h1, h2, a0, a4, a8, a56, a60, hS, h4, h4']
 ·have h3' : ¬ (v0 : Int) = 558777680 := by omega
  simp (disch := omega) [if_pos, if_neg, iteK_pos, iteK_neg, Tryz.f94, h1, h2, a0, a4, a8, a56, a60, hS, h3, h3']
theorem RSegments (lent) (l : List UInt8) (h1 : 64 ≤ l.length) (h2 : l.length ≤ 1048576) : pureV E (om E) 95 lent [bs l] = some (.tuple [lst eSpan (spansP l), ii 0]) := by
 apply pu_95
 have hF : ∀ lent, pureV E (om E) 148 lent [bs l] = some (bb true) := fun lent => by
  apply pu_148
  simp (disch := omega) [if_pos, if_neg, iteK_pos, iteK_neg, Tryz.f148, (by omega : ¬ l.length < 64), (by omega : ¬ 1048576 < l.length), (by omega : (64 : Int) ≤ l.length), (by omega : (l.length : Int) ≤ 1048576)]
 have a16 : ∀ lent, pureV E (om E) 99 lent [bs l, ii 16] = some (w32 (wordAt l 16).toNat) := fun lent => RAt08 lent l 16 (by omega) (by omega)
 have a20 : ∀ lent, pureV E (om E) 99 lent [bs l, ii 20] = some (w32 (wordAt l 20).toNat) := fun lent => RAt08 lent l 20 (by omega) (by omega)
 have a24 : ∀ lent, pureV E (om E) 99 lent [bs l, ii 24] = some (w32 (wordAt l 24).toNat) := fun lent => RAt08 lent l 24 (by omega) (by omega)
 have a28 : ∀ lent, pureV E (om E) 99 lent [bs l, ii 28] = some (w32 (wordAt l 28).toNat) := fun lent => RAt08 lent l 28 (by omega) (by omega)
 have a32 : ∀ lent, pureV E (om E) 99 lent [bs l, ii 32] = some (w32 (wordAt l 32).toNat) := fun lent => RAt08 lent l 32 (by omega) (by omega)
 have a36 : ∀ lent, pureV E (om E) 99 lent [bs l, ii 36] = some (w32 (wordAt l 36).toNat) := fun lent => RAt08 lent l 36 (by omega) (by omega)
 have a40 : ∀ lent, pureV E (om E) 99 lent [bs l, ii 40] = some (w32 (wordAt l 40).toNat) := fun lent => RAt08 lent l 40 (by omega) (by omega)
 have a44 : ∀ lent, pureV E (om E) 99 lent [bs l, ii 44] = some (w32 (wordAt l 44).toNat) := fun lent => RAt08 lent l 44 (by omega) (by omega)
 have u1 : ¬ (l.length : Int) < 64 := by omega
 have u2 : ¬ (1048576 : Int) < l.length := by omega
 simp (disch := omega) [if_pos, if_neg, iteK_pos, iteK_neg, Tryz.f95, hF]
 iterate 4
  apply loop_next (dyn := []) hint_95_0 (by kernel_rfl)
  simp (disch := omega) [if_pos, if_neg, iteK_pos, iteK_neg]
  rw [lpB_eq]
  simp (disch := omega) [if_pos, if_neg, iteK_pos, iteK_neg, a16, a20, a24, a28, a32, a36, a40, a44]
 apply loop_next (dyn := []) hint_95_0 (by kernel_rfl)
 simp (disch := omega) [if_pos, if_neg, iteK_pos, iteK_neg]
 rw [lpB_eq]
 simp (disch := omega) [if_pos, if_neg, iteK_pos, iteK_neg]
 rfl
def spans8 (n : Nat) (l : List Span) : Nat × Nat :=
 match l with
 | [s0, s1, s2, s3] =>
  if n < s0.stop then (16, 83) else if n < s1.stop then (24, 83) else if n < s2.stop then (32, 83) else if n < s3.stop then (40, 83)
  else match lapFrom (⟨0, 64⟩ :: l) 0 with
   | some (i, _) => (8 + 8 * i, 84)
   | none => (0, 0)
 | _ => (0, 0)
end Go.Proofs.YthiciofacaeddaaGreat
end
section
namespace Go.Proofs.YthiciofacaeddaaGreat
open Go Go.Sim
set_option maxRecDepth 100000
set_option maxHeartbeats 0
set_option linter.unusedSimpArgs false
set_option linter.unusedVariables false

theorem RSpans (lent) (l : List UInt8) (s0 s1 s2 s3 : Span) (h : l.length ≤ 1048576) : pureV E (om E) 96 lent [bs l, lst eSpan [s0, s1, s2, s3]] = some (headV (spans8 l.length [s0, s1, s2, s3])) := by
 apply pu_96
 have w0 := fun lent => RWithin lent s0 l.length (by omega)
 have w1 := fun lent => RWithin lent s1 l.length (by omega)
 have w2 := fun lent => RWithin lent s2 l.length (by omega)
 have w3 := fun lent => RWithin lent s3 l.length (by omega)
 have e4 : lst eSpan [s0, s1, s2, s3] = .scon [w32 s0.place.toNat, w32 s0.len.toNat, w32 s1.place.toNat, w32 s1.len.toNat, w32 s2.place.toNat, w32 s2.len.toNat, w32 s3.place.toNat, w32 s3.len.toNat] 0 4 false := rfl
 rw [e4]
 unfold spans8
 simp (disch := omega) [if_pos, if_neg, iteK_pos, iteK_neg, Tryz.f96]
 by_cases g0 : l.length < s0.stop
 ·rw [if_pos g0]
  have g0' : ¬ s0.stop ≤ l.length := by omega
  simp only [g0', decide_false] at w0
  iterate 1
   apply loop_next (dyn := []) hint_96_0 (by kernel_rfl)
   simp (disch := omega) [if_pos, if_neg, iteK_pos, iteK_neg]
   rw [lpB_eq]
   simp (disch := omega) [if_pos, if_neg, iteK_pos, iteK_neg, w0]
 rw [if_neg g0]
 have g0' : s0.stop ≤ l.length := by omega
 simp only [g0', decide_true] at w0
 by_cases g1 : l.length < s1.stop
 ·rw [if_pos g1]
  have g1' : ¬ s1.stop ≤ l.length := by omega
  simp only [g1', decide_false] at w1
  iterate 2
   apply loop_next (dyn := []) hint_96_0 (by kernel_rfl)
   simp (disch := omega) [if_pos, if_neg, iteK_pos, iteK_neg]
   rw [lpB_eq]
   simp (disch := omega) [if_pos, if_neg, iteK_pos, iteK_neg, w0, w1]
 rw [if_neg g1]
 have g1' : s1.stop ≤ l.length := by omega
 simp only [g1', decide_true] at w1
 by_cases g2 : l.length < s2.stop
 ·rw [if_pos g2]
  have g2' : ¬ s2.stop ≤ l.length := by omega
  simp only [g2', decide_false] at w2
  iterate 3
   apply loop_next (dyn := []) hint_96_0 (by kernel_rfl)
   simp (disch := omega) [if_pos, if_neg, iteK_pos, iteK_neg]
   rw [lpB_eq]
   simp (disch := omega) [if_pos, if_neg, iteK_pos, iteK_neg, w0, w1, w2]
 rw [if_neg g2]
 have g2' : s2.stop ≤ l.length := by omega
 simp only [g2', decide_true] at w2
 by_cases g3 : l.length < s3.stop
 ·rw [if_pos g3]
  have g3' : ¬ s3.stop ≤ l.length := by omega
  simp only [g3', decide_false] at w3
  iterate 4
   apply loop_next (dyn := []) hint_96_0 (by kernel_rfl)
   simp (disch := omega) [if_pos, if_neg, iteK_pos, iteK_neg]
   rw [lpB_eq]
   simp (disch := omega) [if_pos, if_neg, iteK_pos, iteK_neg, w0, w1, w2, w3]
 rw [if_neg g3]
 have g3' : s3.stop ≤ l.length := by omega
 simp only [g3', decide_true] at w3
 have hA : ∀ lent, pureV E (om E) 150 lent [.scon [.int .u32 0, .int .u32 64, w32 s0.place.toNat, w32 s0.len.toNat, w32 s1.place.toNat, w32 s1.len.toNat, w32 s2.place.toNat, w32 s2.len.toNat, w32 s3.place.toNat, w32 s3.len.toNat] 0 5 false] = some (apartV' (lapFrom [⟨0, 64⟩, s0, s1, s2, s3] 0)) := fun lent => RApart lent [⟨0, 64⟩, s0, s1, s2, s3] (by simp)
 iterate 5
  apply loop_next (dyn := []) hint_96_0 (by kernel_rfl)
  simp (disch := omega) [if_pos, if_neg, iteK_pos, iteK_neg]
  rw [lpB_eq]
  simp (disch := omega) [if_pos, if_neg, iteK_pos, iteK_neg, w0, w1, w2, w3]
 simp (disch := omega) [if_pos, if_neg, iteK_pos, iteK_neg, cutCells, hA]
 cases hlap : lapFrom [⟨0, 64⟩, s0, s1, s2, s3] 0 with
 | none => simp (disch := omega) [if_pos, if_neg, iteK_pos, iteK_neg, apartV']
 | some x =>
  obtain ⟨i, j⟩ := x
  have := lapFrom_lt _ _ _ _ hlap
  simp only [List.length_cons, List.length_nil] at this
  simp (disch := omega) [if_pos, if_neg, iteK_pos, iteK_neg, apartV']
theorem nameOk_pre {acc : List Export} (x : Export) {j : Nat} (h : j < acc.length) : nameOk (acc ++ [x]) j = nameOk acc j := by
 unfold nameOk
 rw [List.getElem?_append_left h, List.getElem?_append_left (by omega)]
theorem namesFrom_snoc (acc : List Export) (x : Export) : ∀ d n, n + d = acc.length → namesFrom (acc ++ [x]) n = (namesFrom acc n && nameOk (acc ++ [x]) acc.length)
 | 0, n, h => by
  obtain rfl : n = acc.length := by omega
  rw [namesFrom, if_pos (by simp), namesFrom, if_neg (by simp), namesFrom.eq_def acc, if_neg (by omega)]
  simp
 | d + 1, n, h => by
  rw [namesFrom, if_pos (by simp; omega), namesFrom_snoc acc x d (n + 1) (by omega), namesFrom.eq_def acc n, if_pos (by omega), nameOk_pre x (by omega), Bool.and_assoc]
abbrev expsR (x : List Export × Nat × Nat) (first : Nat) : V := if x.2.2 = 0 then .tuple [lst eExport x.1, ii 0, bb true] else .tuple [lst eExport [], ii ((first + x.2.1 : Nat) : Int), bb false]
theorem exps_no (first a : Nat) : expsR ([], a, 87) first = V.tuple [V.scon [] 0 0 false, V.int IntKind.i64 ((first : Int) + (a : Int)), V.bool false] := by
 unfold expsR
 rw [if_neg (by simp)]
 simp
theorem exps_ok (l : List Export) (a first : Nat) : expsR (l, a, 0) first = V.tuple [lst eExport l, ii 0, bb true] := rfl
theorem RExports (lent) (l : List UInt8) (first : Nat) (hl : l.length < 2 ^ 40) (hf' : first < 2 ^ 40) : pureV E (om E) 102 lent [bs l, ii first] = some (expsR (expP l 0 []) first) := by
 apply pu_102
 simp (disch := omega) [if_pos, if_neg, iteK_pos, iteK_neg, Tryz.f102]
 refine loop_chg (dyn := []) (fun a : Nat × List Export => [(7, .sref 0 0 0 a.2.length a.2.length (2, false)), (8, ii a.1)]) (fun _ => []) (fun a => [.row (cat eExport a.2) a.2.length 2 true true])
  (fun a => a.1 ≤ l.length ∧ a.2.length ≤ 64 ∧ namesFrom a.2 0 = true ∧ expP l 0 [] = expP l a.1 a.2) (fun a => l.length - a.1) hint_102_0 (by kernel_rfl) ?_ (0, []) ⟨by simp, by simp, by rw [namesFrom]; rfl, rfl⟩ (by simp)
 rintro ⟨at_, acc⟩ ⟨ha, h64, hnf, hf⟩ IH
 rw [lpB_eq]
 dsimp only at ha h64 hnf hf ⊢
 generalize expP l 0 [] = D at hf IH ⊢
 rw [expP] at hf
 by_cases hlt : at_ < l.length
 ·rw [if_pos hlt] at hf
  by_cases h5 : l.length < at_ + 5
  ·rw [if_pos (.inl h5)] at hf
   simp (disch := omega) [if_pos, if_neg, iteK_pos, iteK_neg, hlt, h5, hf, exps_no]
  ·have hb : l.getD (at_ + 4) 0 = l[at_ + 4] := by rw [List.getD, List.getElem?_eq_getElem (by omega)]; rfl
   have := l[at_ + 4].toNat_lt
   rw [hb] at hf
   by_cases h6 : l.length < at_ + 5 + l[at_ + 4].toNat
   ·rw [if_pos (.inr (.inl h6))] at hf
    simp (disch := omega) [if_pos, if_neg, iteK_pos, iteK_neg, hlt, h5, h6, hf, exps_no]
   ·have hat := fun lent => RAt08 lent l at_ hl (by omega)
    have hc : cat eExport acc ++ [.str (List.take l[at_ + 4].toNat (List.drop (at_ + 5) l)), .int .u32 (wordAt l at_).toNat] = cat eExport (acc ++ [⟨List.take l[at_ + 4].toNat (List.drop (at_ + 5) l), wordAt l at_⟩]) := by simp [cat_append, cat_cons]
    have hs := namesFrom_snoc acc ⟨List.take l[at_ + 4].toNat (List.drop (at_ + 5) l), wordAt l at_⟩ acc.length 0 (by omega)
    rw [hnf, Bool.true_and] at hs
    generalize hx : (⟨List.take l[at_ + 4].toNat (List.drop (at_ + 5) l), wordAt l at_⟩ : Export) = x at hf hc hs
    have hN := fun lent => RNames lent (acc ++ [x]) (by simp; omega)
    have hr : V.scon (V.canonL (cutCells (cat eExport (acc ++ [x])) 0 (acc.length + 1) 2)) 0 (acc.length + 1) false = lst eExport (acc ++ [x]) := res_lst eExport (by simp) rfl
    have hN1 : ((at_ : Int) + 5 + l[at_ + 4].toNat).toNat - (at_ + 5) = l[at_ + 4].toNat := by omega
    have hN2 : (at_ + 5 + l[at_ + 4].toNat) - (at_ + 5) = l[at_ + 4].toNat := by omega
    by_cases h7 : acc.length = 64
    ·rw [if_pos (.inr (.inr h7))] at hf
     have hNN : (decide ((acc ++ [x]).length ≤ 64) && namesFrom (acc ++ [x]) 0) = false := by simp [h7]
     rw [hNN] at hN
     simp (disch := omega) [if_pos, if_neg, iteK_pos, iteK_neg, hlt, h5, h6, hat, hN1, hN2, List.drop_take, hc, hr, hN, hf, exps_no]
    ·rw [if_neg (by omega)] at hf
     have h65 : (acc ++ [x]).length ≤ 64 := by simp; omega
     rw [hs] at hN
     simp only [h65, decide_true, Bool.true_and] at hN
     by_cases h8 : nameOk (acc ++ [x]) acc.length = true
     ·rw [if_pos h8] at hf
      rw [h8] at hN hs
      simp (disch := omega) [if_pos, if_neg, iteK_pos, iteK_neg, hlt, h5, h6, hat, hN1, hN2, List.drop_take, hc, hr, hN]
      exact IH (at_ + (5 + l[at_ + 4].toNat), acc ++ [x]) _ _ ⟨by dsimp only; omega, h65, hs, by dsimp only; rw [← Nat.add_assoc]; exact hf⟩ (by dsimp only; omega) (by simp [Int.add_assoc])
     ·rw [if_neg h8] at hf
      have h8' : nameOk (acc ++ [x]) acc.length = false := by simpa using h8
      rw [h8'] at hN
      simp (disch := omega) [if_pos, if_neg, iteK_pos, iteK_neg, hlt, h5, h6, hat, hN1, hN2, List.drop_take, hc, hr, hN, hf, exps_no]
 ·rw [if_neg hlt] at hf
  obtain rfl : at_ = l.length := by omega
  simp (disch := omega) [if_pos, if_neg, iteK_pos, iteK_neg, hlt, hf, exps_ok]
end Go.Proofs.YthiciofacaeddaaGreat
end
