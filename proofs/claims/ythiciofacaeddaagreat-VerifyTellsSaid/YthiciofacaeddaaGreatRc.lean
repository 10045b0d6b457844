/-
  The document's answer for layer 8: Encode; the header.
-/
import Derived.Test.YthiciofacaeddaaGreatRb
section
namespace Go.Proofs.YthiciofacaeddaaGreat
open Go Go.Sim
set_option maxRecDepth 100000
set_option maxHeartbeats 0
set_option linter.unusedSimpArgs false
set_option linter.unusedVariables false

theorem with4_twice (l : List UInt8) (x y : UInt32) (h : 12 ≤ l.length) : with4 (with4 l 8 x) 8 y = with4 l 8 y := by
  have hl := with4_length (l := l) (n := 8) x (by omega)
  apply List.ext_getElem
  · rw [with4_length _ (by omega), hl, with4_length _ (by omega)]
  · intro i h1 h2
    apply UInt8.toNat_inj.1
    rw [with4_at8 _ y (by omega), with4_at8 l y h]
    split
    · rfl
    · rename_i hc
      rw [with4_at8 l x h, if_neg hc]
theorem RSumH (lent) (l : List UInt8) (hl : l.length < 2 ^ 40) (h : 12 ≤ l.length) : pureV E (om E) 147 lent [bs l] = some (w32 (adler (with4 l 8 0)).toNat) := by
  apply pu_147
  have hW : ∀ lent, pureV E (om E) 170 lent [ii 4, bs l, ii 8, .int .u64 0] = some (.tuple [bs (with4 l 8 0), ii 0]) := fun lent => RWith lent l 0 hl h
  have hlen := with4_length (l := l) (n := 8) 0 (by omega)
  have hS := fun lent => RSum lent (with4 l 8 0) (by omega)
  simp (disch := omega) [if_pos, if_neg, iteK_pos, iteK_neg, Tryz.f147, hW, hS]
theorem RSealed (l : List UInt8) (hl : l.length < 2 ^ 40) (h : 12 ≤ l.length) : pureV E (om E) 133 false [bs l] = some (bs (sealP l)) := by
  apply pu_133
  have hx := (adler (with4 l 8 0)).toNat_lt
  have hW := fun lent => RWith lent l (adler (with4 l 8 0)) hl h
  have hS := fun lent => RSumH lent l hl h
  have e : sealP l = with4 l 8 (adler (with4 l 8 0)) := with4_twice l 0 _ h
  rw [e]
  simp (disch := omega) [if_pos, if_neg, iteK_pos, iteK_neg, Tryz.f133, hW, hS]
theorem RWordN (n : Nat) (h : n < 4294967296) : pureV E (om E) 132 false [.int .u32 n] = some (bs (bytes4 (UInt32.ofNat n))) := by
  have := RWord (UInt32.ofNat n)
  rw [UInt32.toNat_ofNat', Nat.mod_eq_of_lt h] at this
  exact this
theorem RJoin3 (lent) (a b c : List UInt8) (ha : a.length < 2 ^ 25) (hb : b.length < 2 ^ 25) (hc : c.length < 2 ^ 25) : pureV E (om E) 131 lent [.scon (V.canonL (cutCells [bs a, bs b, bs c] 0 3 1)) 0 3 false] = some (bs (a ++ (b ++ c))) := by
  rw [show V.canonL (cutCells [bs a, bs b, bs c] 0 3 1) = [bs a, bs b, bs c] by simp [cutCells]]
  have := RJoin lent [a, b, c] (by simp) (by simp; omega)
  rw [show [a, b, c].flatten = a ++ (b ++ c) by simp] at this
  exact this
theorem RJoin9 (lent) (a b c d e f g h i : List UInt8) (ha : a.length < 2 ^ 25) (hb : b.length < 2 ^ 25) (hc : c.length < 2 ^ 25) (hd : d.length < 2 ^ 25) (he : e.length < 2 ^ 25) (hf : f.length < 2 ^ 25) (hg : g.length < 2 ^ 25) (hh : h.length < 2 ^ 25) (hi : i.length < 2 ^ 25) :
    pureV E (om E) 131 lent [.scon (V.canonL (cutCells [bs a, bs b, bs c, bs d, bs e, bs f, bs g, bs h, bs i] 0 9 1)) 0 9 false] = some (bs (a ++ (b ++ (c ++ (d ++ (e ++ (f ++ (g ++ (h ++ i))))))))) := by
  rw [show V.canonL (cutCells [bs a, bs b, bs c, bs d, bs e, bs f, bs g, bs h, bs i] 0 9 1) = [bs a, bs b, bs c, bs d, bs e, bs f, bs g, bs h, bs i] by simp [cutCells]]
  have := RJoin lent [a, b, c, d, e, f, g, h, i] (by simp) (by simp; omega)
  rw [show [a, b, c, d, e, f, g, h, i].flatten = a ++ (b ++ (c ++ (d ++ (e ++ (f ++ (g ++ (h ++ i))))))) by simp] at this
  exact this
theorem RJoinH (lent) (b c d : List UInt8) (hb : b.length < 2 ^ 25) (hc : c.length < 2 ^ 25) (hd : d.length < 2 ^ 25) :
    pureV E (om E) 131 lent [.scon (V.canonL (cutCells [.scon (cutCells [V.int .u8 80, V.int .u8 69, V.int .u8 78, V.int .u8 33] 0 4 1) 0 4 true, bs b, bs c, bs d] 0 4 1)) 0 4 false] = some (bs ([80, 69, 78, 33] ++ (b ++ (c ++ d)))) := by
  rw [show V.canonL (cutCells [.scon (cutCells [V.int .u8 80, V.int .u8 69, V.int .u8 78, V.int .u8 33] 0 4 1) 0 4 true, bs b, bs c, bs d] 0 4 1) = [bs [80, 69, 78, 33], bs b, bs c, bs d] by simp [cutCells]; rfl]
  have := RJoin lent [[80, 69, 78, 33], b, c, d] (by simp) (by simp; omega)
  rw [show [[80, 69, 78, 33], b, c, d].flatten = [80, 69, 78, 33] ++ (b ++ (c ++ d)) by simp] at this
  exact this
def atH (ls : List (List UInt8)) : Nat → Nat
  | 0 => 64
  | i + 1 => atH ls i + (ls.getD i []).length
def headH (h : List UInt8) (ls : List (List UInt8)) : Nat → List UInt8
  | 0 => h
  | i + 1 => headH h ls i ++ (bytes4 (UInt32.ofNat (atH ls i)) ++ bytes4 (UInt32.ofNat (ls.getD i []).length))
theorem headH_len (h : List UInt8) (ls : List (List UInt8)) : ∀ i, (headH h ls i).length = h.length + 8 * i
  | 0 => rfl
  | i + 1 => by rw [headH]; simp [headH_len h ls i]; omega
theorem REncodeI (x : Img) (hc : checkP x = 0) : pureV E (om E) 75 false [imgV x] = some (.tuple [bs (encP x), ii 0]) := by
  apply pu_75
  obtain ⟨c1, c2, c3, c4, c5, c6, c7⟩ := check_ok hc
  have s := sizes hc
  have sl := encF_len x
  have hC := fun lent => RCheckI lent x (by omega) (by omega) (by omega) (by omega)
  simp only [hc] at hC
  have hP := RParts x hc
  have w0 : pureV E (om E) 132 false [.int .u32 0] = some (bs (bytes4 0)) := RWord 0
  have w1 : pureV E (om E) 132 false [.int .u32 1] = some (bs (bytes4 1)) := RWord 1
  have wn := RWordN x.code.length (by omega)
  have hJ3 := fun lent a b c ha => RJoin3 lent a (bytes4 b) (bytes4 c) ha (by simp) (by simp)
  have hJH := fun lent => RJoinH lent (bytes4 1) (bytes4 0) (bytes4 (UInt32.ofNat x.code.length)) (by simp) (by simp) (by simp)
  obtain ⟨s1, s2, s3, s4, s5⟩ := s
  have hS := RSealed (encF x) (by omega) (by omega)
  have h64 : (64 : Int).toNat = 64 := rfl
  have hF : encF x = _ := rfl
  conv at hF => rhs; unfold encF
  simp only [words, List.append_nil, List.append_assoc] at hF
  unfold encP
  generalize encF x = F at *
  generalize encI x.code = A at *
  generalize words x.jumps = B at *
  generalize namesB x.names = D at *
  have k1 : (64 + (A.length : Int)).toNat = 64 + A.length := by omega
  have k2 : (64 + (A.length : Int) + B.length).toNat = 64 + A.length + B.length := by omega
  have k3 : (64 + (A.length : Int) + B.length + x.data.length).toNat = 64 + A.length + B.length + x.data.length := by omega
  simp (disch := omega) [if_pos, if_neg, iteK_pos, iteK_neg, Tryz.f75, hC, hP, w0, w1, wn, hJH]
  refine loop_chg (dyn := []) (fun n : Nat => [(6, bs (headH (80 :: 69 :: 78 :: 33 :: (bytes4 1 ++ (bytes4 0 ++ bytes4 (UInt32.ofNat x.code.length)))) [A, B, x.data, D] n)), (7, .int .u32 (atH [A, B, x.data, D] n)), (8, ii n)]) (fun _ => []) (fun n => []) (fun n => n ≤ 4) (fun n => 4 - n) hint_75_0 (by kernel_rfl) ?_ 0 (by simp) (by simp [headH, atH])
  intro n hn IH
  rw [lpB_eq]
  have hhl := headH_len (80 :: 69 :: 78 :: 33 :: (bytes4 1 ++ (bytes4 0 ++ bytes4 (UInt32.ofNat x.code.length)))) [A, B, x.data, D] n
  by_cases hlt : n < 4
  · have hat : atH [A, B, x.data, D] n ≤ 2 ^ 20 := by
      have : n = 0 ∨ n = 1 ∨ n = 2 ∨ n = 3 := by omega
      rcases this with rfl | rfl | rfl | rfl <;> simp [atH, List.getD] <;> omega
    have hlen4 : ∀ l, l = [A, B, x.data, D].getD n [] → l.length ≤ 2 ^ 20 := by
      intro l hl
      have : n = 0 ∨ n = 1 ∨ n = 2 ∨ n = 3 := by omega
      rcases this with rfl | rfl | rfl | rfl <;> simp [List.getD] at hl <;> subst hl <;> omega
    have e1 := headH.eq_2 (80 :: 69 :: 78 :: 33 :: (bytes4 1 ++ (bytes4 0 ++ bytes4 (UInt32.ofNat x.code.length)))) [A, B, x.data, D] n
    have e2 := atH.eq_2 [A, B, x.data, D] n
    have hg : ∀ h, ([bs A, bs B, bs x.data, bs D] : List V)[n]'h = bs ([A, B, x.data, D].getD n []) := by
      have : n = 0 ∨ n = 1 ∨ n = 2 ∨ n = 3 := by omega
      rcases this with rfl | rfl | rfl | rfl <;> intro h <;> rfl
    generalize headH (80 :: 69 :: 78 :: 33 :: (bytes4 1 ++ (bytes4 0 ++ bytes4 (UInt32.ofNat x.code.length)))) [A, B, x.data, D] n = H at *
    generalize atH [A, B, x.data, D] n = a at *
    have hl := hlen4 _ rfl
    generalize [A, B, x.data, D].getD n [] = l at *
    have wa := RWordN a (by omega)
    have wl := RWordN l.length (by omega)
    have hJ := fun lent => hJ3 lent H (UInt32.ofNat a) (UInt32.ofNat l.length) (by rw [hhl]; simp; omega)
    simp (disch := omega) [if_pos, if_neg, iteK_pos, iteK_neg, hlt, hg, wa, wl, hJ]
    refine IH (n + 1) _ _ (by omega) (by omega) ?_
    rw [e1, e2]
    simp
  · obtain rfl : n = 4 := by omega
    have wz := RWord x.zero
    have ws' := RWord x.stack
    have hJ9 := fun lent => RJoin9 lent (headH (80 :: 69 :: 78 :: 33 :: (bytes4 1 ++ (bytes4 0 ++ bytes4 (UInt32.ofNat x.code.length)))) [A, B, x.data, D] 4) (bytes4 x.zero) (bytes4 x.stack) (bytes4 0) (bytes4 0) A B x.data D (by rw [hhl]; simp) (by simp) (by simp) (by simp) (by simp) (by omega) (by omega) (by omega) (by omega)
    have hFin : headH (80 :: 69 :: 78 :: 33 :: (bytes4 1 ++ (bytes4 0 ++ bytes4 (UInt32.ofNat x.code.length)))) [A, B, x.data, D] 4 ++ (bytes4 x.zero ++ (bytes4 x.stack ++ (bytes4 0 ++ (bytes4 0 ++ (A ++ (B ++ (x.data ++ D))))))) = F := by
      rw [hF]
      simp [headH, atH, List.getD]
    rw [hFin] at hJ9
    generalize headH (80 :: 69 :: 78 :: 33 :: (bytes4 1 ++ (bytes4 0 ++ bytes4 (UInt32.ofNat x.code.length)))) [A, B, x.data, D] 4 = H at *
    clear hF hFin hJ3 hJH wn w1 hP hC k1 k2 k3 c1 c2 c3 c4 c5 c6 c7 s1 s2 s3 s4 s5 IH hn hhl hlt sl h64
    simp (maxSteps := 3000000) (disch := omega) [if_pos, if_neg, iteK_pos, iteK_neg, wz, ws', w0, hJ9, hS]
end Go.Proofs.YthiciofacaeddaaGreat
end
