/-
  Package fuse: Longest; the law's awake.
  Package fuse: Longest of every stretch; the law's awake.
-/
import Derived.Test.YtjmipgfaghjgmaaNi
import Derived.Test.YtjmipgfaghjgmaaMe
section
namespace Go.Proofs.Ytjmipgfaghjgmaa
open Go Go.Sim
set_option maxRecDepth 100000
set_option linter.unusedSimpArgs false
set_option linter.unusedVariables false
/-- The longest of the shapes from k on, so many of them. -/
def longGo (w : List Instr) : Nat → Nat → Nat × Shp → Nat × Shp
  | 0, _, b => b
  | n + 1, k, b => longGo w n (k + 1) (if b.2.len < (fitsF w k).len then (k, fitsF w k) else b)
def longF (w : List Instr) : Except Nat (Nat × Shp) :=
  match w with
  | [] => .error 2
  | x :: r => if insBad x = 0 then .ok (longGo (x :: r) 15 1 (0, Shp.none)) else .error (insBad x)
abbrev longV (a : Nat) : Except Nat (Nat × Shp) → V
  | .ok p => .tuple [fusedV a p.1 p.2, ii 0]
  | .error e => .tuple [fusedV 0 0 Shp.none, ii e]
theorem call_Fits {c : List Instr} {a e : Nat} (L : Lies c a e) (k : Nat) (hk : 1 ≤ k) (hk' : k ≤ 15) (h : Heap) : callV E (om E) 15 [lst eInstr c, .int .u32 a, .int .u32 e, .int .u8 k] h =
    some (.tuple (if (fitsF (win c a e) k).len = 0 then [fusedV 0 0 Shp.none, bb false] else [fusedV a k (fitsF (win c a e) k), bb true]), h) := by
  simp (disch := omega) [if_pos, if_neg, iteK_pos, iteK_neg, Fits false L k hk hk']
theorem isOp_of {i : Instr} (h : insBad i = 0) : isOp i.op = true := by
  unfold insBad at h
  cases hb : isOp i.op
  · rw [hb] at h; simp at h
  · rfl
theorem fits_one {w : List Instr} {x : Instr} {r : List Instr} (hw : w = x :: r) (h : insBad x = 0) : (fitsF w 1).len = 1 := by
  have ho : opF w 0 = x := by rw [hw]; simp [opF, h]
  have : x.op ≠ 0 := by have := isOp_of h; simp [isOp] at this; omega
  simp [fitsF, oneS, ho, this]
theorem Longest (lent) {c : List Instr} {a e : Nat} (L : Lies c a e) : pureV E (om E) 8 lent [lst eInstr c, .int .u32 a, .int .u32 e] = some (longV a (longF (win c a e))) := by
  have hl := fun lent => lies lent c a e (by have := L.lt; have := L.small; omega) L.small L.short
  rw [show decide (a < e ∧ e ≤ c.length) = true by simp [L.lt, L.le]] at hl
  have hF := fun (k : Nat) hk hk' h => call_Fits L k hk hk' h
  have ha := L.lt
  have he := L.le
  have hea := L.small
  have hc := L.short
  clear L
  have hw := win_cons ha he
  unfold longF
  rw [hw]
  dsimp only
  rw [← hw]
  apply pu_8
  by_cases h1 : insBad c[a] = 0
  · rw [if_pos h1]
    have hone := fits_one hw h1
    generalize hR : longGo (win c a e) 15 1 (0, Shp.none) = R
    simp (disch := omega) [if_pos, if_neg, iteK_pos, iteK_neg, Try.f8, IsaCheck, h1, hl]
    refine loop_chg (dyn := []) (fun x : Nat × Nat × Nat × Shp => [(10, .int .u8 x.1)])
      (fun x => [(0, 1, .row [.int .u32 x.2.1, .int .u32 x.2.2.2.len, .int .u8 x.2.2.1, .int .u8 x.2.2.2.op, .int .u32 x.2.2.2.a, .int .u32 x.2.2.2.b] 0 6 true true)]) (fun _ => [])
      (fun x => 1 ≤ x.1 ∧ x.1 ≤ 16 ∧ (x.1 = 1 ∧ x.2.1 = 0 ∧ x.2.2.2.len = 0 ∨ 1 < x.1 ∧ x.2.1 = a) ∧ R = longGo (win c a e) (16 - x.1) x.1 (x.2.2.1, x.2.2.2)) (fun x => 16 - x.1) hint_8_0 (by kernel_rfl) ?_ (1, 0, 0, Shp.none) ⟨by simp, by simp, by simp [Shp.none], hR.symm⟩ (by simp [Shp.none])
    clear hR
    rintro ⟨k, A, kb, b⟩ ⟨hk1, hk2, hA, hf⟩ IH
    dsimp only at hk1 hk2 hA hf
    rw [lpB_eq]
    by_cases h16 : k = 16
    · subst h16
      have hA' : A = a := by omega
      subst hA'
      rw [show 16 - 16 = 0 by rfl, longGo] at hf
      rw [hf]
      clear IH
      simp (disch := omega) [if_pos, if_neg, iteK_pos, iteK_neg]
    · have hF' := hF k hk1 (by omega)
      rw [show 16 - k = (15 - k) + 1 by omega, longGo] at hf
      have hkk : k = 1 → (fitsF (win c a e) k).len = 1 := by rintro rfl; exact hone
      generalize fitsF (win c a e) k = g at *
      by_cases g0 : g.len = 0
      · rw [if_neg (by omega)] at hf
        simp (disch := omega) [if_pos, if_neg, iteK_pos, iteK_neg, hF', g0]
        exact IH (k + 1, A, kb, b) _ _ ⟨by dsimp only; omega, by dsimp only; omega, by dsimp only; omega, by dsimp only; rw [hf, show 16 - (k + 1) = 15 - k by omega]⟩ (by dsimp only; omega) (by simp)
      · by_cases g1 : b.len < g.len
        · rw [if_pos g1] at hf
          simp (disch := omega) [if_pos, if_neg, iteK_pos, iteK_neg, hF', g0, g1]
          exact IH (k + 1, a, k, g) _ _ ⟨by dsimp only; omega, by dsimp only; omega, by dsimp only; omega, by dsimp only; rw [hf, show 16 - (k + 1) = 15 - k by omega]⟩ (by dsimp only; omega) (by simp)
        · rw [if_neg g1] at hf
          simp (disch := omega) [if_pos, if_neg, iteK_pos, iteK_neg, hF', g0, g1]
          exact IH (k + 1, A, kb, b) _ _ ⟨by dsimp only; omega, by dsimp only; omega, by dsimp only; omega, by dsimp only; rw [hf, show 16 - (k + 1) = 15 - k by omega]⟩ (by dsimp only; omega) (by simp)
  · rw [if_neg h1]
    simp (disch := omega) [if_pos, if_neg, iteK_pos, iteK_neg, Try.f8, IsaCheck, h1, hl, Shp.none]
end Go.Proofs.Ytjmipgfaghjgmaa
end
section
namespace Go.Proofs.Ytjmipgfaghjgmaa
open Go Go.Sim
set_option maxRecDepth 100000
set_option linter.unusedSimpArgs false
set_option linter.unusedVariables false
theorem LongestBad (lent) (c : List Instr) (a e : Nat) (ha : a < 4294967296) (he : e < 4294967296) (hl : c.length < 2 ^ 63) (h : ¬ (a < e ∧ e ≤ c.length)) : pureV E (om E) 8 lent [lst eInstr c, .int .u32 a, .int .u32 e] = some (longV a (.error 2)) := by
  have hl := fun lent => lies lent c a e ha he hl
  rw [decide_eq_false h] at hl
  apply pu_8
  simp (disch := omega) [if_pos, if_neg, iteK_pos, iteK_neg, Try.f8, hl, Shp.none]
theorem call_Longest {c : List Instr} {a e : Nat} (L : Lies c a e) (h : Heap) : callV E (om E) 8 [lst eInstr c, .int .u32 a, .int .u32 e] h = some (longV a (longF (win c a e)), h) := by
  simp (disch := omega) [if_pos, if_neg, iteK_pos, iteK_neg, Longest false L]
  done
theorem eql_fused (x y : Operand) (a0 a1 a2 a3 a4 a5 b0 b1 b2 b3 b4 b5 : Int) : binO E .eql 30 x y (.agg [.int .u32 a0, .int .u32 a1, .int .u8 a2, .int .u8 a3, .int .u32 a4, .int .u32 a5]) (.agg [.int .u32 b0, .int .u32 b1, .int .u8 b2, .int .u8 b3, .int .u32 b4, .int .u32 b5]) = some (.bool (decide (a0 = b0 ∧ a1 = b1 ∧ a2 = b2 ∧ a3 = b3 ∧ a4 = b4 ∧ a5 = b5))) :=
  binO_eql (eqV_six (by rw [E_P]; exact Try.underlying30) (by kernel_rfl) (by rfl) (by rfl) (by rw [E_P]; simp) (by rw [E_P]; simp) (by rw [E_P]; simp) (by rw [E_P]; simp) (by rw [E_P]; simp) (by rw [E_P]; simp) (by rw [E_P]; simp) (by rw [E_P]; simp) (by rw [E_P]; simp) (by rw [E_P]; simp) (by rw [E_P]; simp) (by rw [E_P]; simp))
theorem neq_fused (x y : Operand) (a0 a1 a2 a3 a4 a5 b0 b1 b2 b3 b4 b5 : Int) : binO E .neq 30 x y (.agg [.int .u32 a0, .int .u32 a1, .int .u8 a2, .int .u8 a3, .int .u32 a4, .int .u32 a5]) (.agg [.int .u32 b0, .int .u32 b1, .int .u8 b2, .int .u8 b3, .int .u32 b4, .int .u32 b5]) = some (.bool (!decide (a0 = b0 ∧ a1 = b1 ∧ a2 = b2 ∧ a3 = b3 ∧ a4 = b4 ∧ a5 = b5))) :=
  binO_neq (eqV_six (by rw [E_P]; exact Try.underlying30) (by kernel_rfl) (by rfl) (by rfl) (by rw [E_P]; simp) (by rw [E_P]; simp) (by rw [E_P]; simp) (by rw [E_P]; simp) (by rw [E_P]; simp) (by rw [E_P]; simp) (by rw [E_P]; simp) (by rw [E_P]; simp) (by rw [E_P]; simp) (by rw [E_P]; simp) (by rw [E_P]; simp) (by rw [E_P]; simp))
def bumpCode : List Instr := [⟨9, 8⟩, ⟨9, 8⟩, ⟨31, 0⟩, ⟨8, 1⟩, ⟨39, 0⟩, ⟨34, 0⟩]
theorem bump_long : longF (win bumpCode 0 6) = .ok (15, ⟨6, 39, 8, 1⟩) := by kernel_rfl
theorem awake (lent) : pureV E (om E) 7 lent [] = some (bb true) := by
  have hL : ∀ lent, pureV E (om E) 8 lent [V.scon (V.canonL (cutCells [.int .u8 9, .int .u32 8, .int .u8 9, .int .u32 8, .int .u8 31, .int .u32 0, .int .u8 8, .int .u32 1, .int .u8 39, .int .u32 0, .int .u8 34, .int .u32 0] 0 6 2)) 0 6 false, .int .u32 0, .int .u32 6] =
      some (.tuple [.agg [.int .u32 0, .int .u32 6, .int .u8 15, .int .u8 39, .int .u32 8, .int .u32 1], ii 0]) := by
    intro lent
    have := Longest lent (c := bumpCode) (a := 0) (e := 6) ⟨by decide, by decide, by decide, by decide⟩
    rw [bump_long] at this
    exact this
  apply pu_7
  simp (disch := omega) [if_pos, if_neg, iteK_pos, iteK_neg, Try.f7]
  rw [hL]
  simp (disch := omega) [if_pos, if_neg, iteK_pos, iteK_neg, eql_fused]
end Go.Proofs.Ytjmipgfaghjgmaa
end
