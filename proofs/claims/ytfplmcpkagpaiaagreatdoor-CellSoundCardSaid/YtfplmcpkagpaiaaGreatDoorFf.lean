/-
 Package fuse: Longest; the law's awake.
 Package fuse: Longest of every stretch; the law's awake.
 Package fuse: Row; FuseCovers.
 Package cell: cells, leaders, what Check says: plain.
 Sets of numbers: NewSet, Add, Drop, Has.
 Sets of numbers: Add, Drop; All, gone through.
-/
import Derived.Test.YtfplmcpkagpaiaaGreatDoorFd
import Derived.Test.YtfplmcpkagpaiaaGreatDoorMe
import Derived.Test.YtfplmcpkagpaiaaGreatDoorMt
set_option maxRecDepth 100000
set_option maxHeartbeats 0
set_option linter.unusedSimpArgs false
set_option linter.unusedVariables false
section
namespace Go.Proofs.YtfplmcpkagpaiaaGreatDoor.Fl
open Go Go.Sim
def longGo (w : List Instr) : Nat → Nat → Nat × Shp → Nat × Shp
 | 0, _, b => b
 | n + 1, k, b => longGo w n (k + 1) (if b.2.len < (fitsF w k).len then (k, fitsF w k) else b)
def longF (w : List Instr) : Except Nat (Nat × Shp) :=
 match w with
 | [] => .error 2
 | x :: r => if insBad x = 0 then .ok (longGo (x :: r) 15 1 (0, Shp.none)) else .error (insBad x)
abbrev longV (a : Nat) : Except Nat (Nat × Shp) → V
 | .ok p => .tuple [fusedV a p.1 p.2, ii 0]
 | .error e => .tuple [fusedV 0 0 Shp.none, ii e]
theorem call_Fits {c : List Instr} {a e : Nat} (L : Lies c a e) (k : Nat) (hk : 1 ≤ k) (hk' : k ≤ 15) (h : Heap) : callV E (om E) 25 [lst eInstr c, .int .u32 a, .int .u32 e, .int .u8 k] h =
  some (.tuple (if (fitsF (win c a e) k).len = 0 then [fusedV 0 0 Shp.none, bb false] else [fusedV a k (fitsF (win c a e) k), bb true]), h) := by
 simp (disch := omega) [if_pos, if_neg, iteK_pos, iteK_neg, Fits false L k hk hk']
theorem isOp_of {i : Instr} (h : insBad i = 0) : isOp i.op = true := by
 unfold insBad at h
 cases hb : isOp i.op
 ·rw [hb] at h; simp at h
 ·rfl
theorem fits_one {w : List Instr} {x : Instr} {r : List Instr} (hw : w = x :: r) (h : insBad x = 0) : (fitsF w 1).len = 1 := by
 have ho : opF w 0 = x := by rw [hw]; simp [opF, h]
 have : x.op ≠ 0 := by have := isOp_of h; simp [isOp] at this; omega
 simp [fitsF, oneS, ho, this]
theorem Longest (lent) {c : List Instr} {a e : Nat} (L : Lies c a e) : pureV E (om E) 67 lent [lst eInstr c, .int .u32 a, .int .u32 e] = some (longV a (longF (win c a e))) := by
 have hl := fun lent => lies lent c a e (by have := L.lt; have := L.small; omega) L.small L.short
 rw [show decide (a < e ∧ e ≤ c.length) = true by simp [L.lt, L.le]] at hl
 have hF := fun (k : Nat) hk hk' h => call_Fits L k hk hk' h
 have ha := L.lt
 have he := L.le
 have hea := L.small
 have hc := L.short
 clear L
 have hw := win_cons ha he
 unfold longF
 rw [hw]
 dsimp only
 rw [← hw]
 apply pu_67
 by_cases h1 : insBad c[a] = 0
 ·rw [if_pos h1]
  have hone := fits_one hw h1
  generalize hR : longGo (win c a e) 15 1 (0, Shp.none) = R
  simp (disch := omega) [if_pos, if_neg, iteK_pos, iteK_neg, Tryz.f67, IsaCheck, h1, hl]
  refine loop_chg (dyn := []) (fun x : Nat × Nat × Nat × Shp => [(10, .int .u8 x.1)])
   (fun x => [(0, 1, .row [.int .u32 x.2.1, .int .u32 x.2.2.2.len, .int .u8 x.2.2.1, .int .u8 x.2.2.2.op, .int .u32 x.2.2.2.a, .int .u32 x.2.2.2.b] 0 6 true true)]) (fun _ => [])
   (fun x => 1 ≤ x.1 ∧ x.1 ≤ 16 ∧ (x.1 = 1 ∧ x.2.1 = 0 ∧ x.2.2.2.len = 0 ∨ 1 < x.1 ∧ x.2.1 = a) ∧ R = longGo (win c a e) (16 - x.1) x.1 (x.2.2.1, x.2.2.2)) (fun x => 16 - x.1) hint_67_0 (by kernel_rfl) ?_ (1, 0, 0, Shp.none) ⟨by simp, by simp, by simp [Shp.none], hR.symm⟩ (by simp [Shp.none])
  clear hR
  rintro ⟨k, A, kb, b⟩ ⟨hk1, hk2, hA, hf⟩ IH
  dsimp only at hk1 hk2 hA hf
  rw [lpB_eq]
  by_cases h16 : k = 16
  ·subst h16
   have hA' : A = a := by omega
   subst hA'
   rw [show 16 - 16 = 0 by rfl, longGo] at hf
   rw [hf]
   clear IH
   simp (disch := omega) [if_pos, if_neg, iteK_pos, iteK_neg]
  ·have hF' := hF k hk1 (by omega)
   rw [show 16 - k = (15 - k) + 1 by omega, longGo] at hf
   have hkk : k = 1 → (fitsF (win c a e) k).len = 1 := by rintro rfl; exact hone
   generalize fitsF (win c a e) k = g at *
   by_cases g0 : g.len = 0
   ·rw [if_neg (by omega)] at hf
    simp (disch := omega) [if_pos, if_neg, iteK_pos, iteK_neg, hF', g0]
    exact IH (k + 1, A, kb, b) _ _ ⟨by dsimp only; omega, by dsimp only; omega, by dsimp only; omega, by dsimp only; rw [hf, show 16 - (k + 1) = 15 - k by omega]⟩ (by dsimp only; omega) (by simp)
   ·by_cases g1 : b.len < g.len
    ·rw [if_pos g1] at hf
     simp (disch := omega) [if_pos, if_neg, iteK_pos, iteK_neg, hF', g0, g1]
     exact IH (k + 1, a, k, g) _ _ ⟨by dsimp only; omega, by dsimp only; omega, by dsimp only; omega, by dsimp only; rw [hf, show 16 - (k + 1) = 15 - k by omega]⟩ (by dsimp only; omega) (by simp)
    ·rw [if_neg g1] at hf
     simp (disch := omega) [if_pos, if_neg, iteK_pos, iteK_neg, hF', g0, g1]
     exact IH (k + 1, A, kb, b) _ _ ⟨by dsimp only; omega, by dsimp only; omega, by dsimp only; omega, by dsimp only; rw [hf, show 16 - (k + 1) = 15 - k by omega]⟩ (by dsimp only; omega) (by simp)
 ·rw [if_neg h1]
  simp (disch := omega) [if_pos, if_neg, iteK_pos, iteK_neg, Tryz.f67, IsaCheck, h1, hl, Shp.none]
end Go.Proofs.YtfplmcpkagpaiaaGreatDoor.Fl
end
section
namespace Go.Proofs.YtfplmcpkagpaiaaGreatDoor.Fl
open Go Go.Sim
theorem neq_fused (x y : Operand) (a0 a1 a2 a3 a4 a5 b0 b1 b2 b3 b4 b5 : Int) : binO E .neq 44 x y (.agg [.int .u32 a0, .int .u32 a1, .int .u8 a2, .int .u8 a3, .int .u32 a4, .int .u32 a5]) (.agg [.int .u32 b0, .int .u32 b1, .int .u8 b2, .int .u8 b3, .int .u32 b4, .int .u32 b5]) = some (.bool (!decide (a0 = b0 ∧ a1 = b1 ∧ a2 = b2 ∧ a3 = b3 ∧ a4 = b4 ∧ a5 = b5))) :=
 binO_neq (eqV_six (by rw [E_P]; exact Tryz.underlying44) (by kernel_rfl) (by rfl) (by rfl) (by rw [E_P]; simp) (by rw [E_P]; simp) (by rw [E_P]; simp) (by rw [E_P]; simp) (by rw [E_P]; simp) (by rw [E_P]; simp) (by rw [E_P]; simp) (by rw [E_P]; simp) (by rw [E_P]; simp) (by rw [E_P]; simp) (by rw [E_P]; simp) (by rw [E_P]; simp))
end Go.Proofs.YtfplmcpkagpaiaaGreatDoor.Fl
end
section
namespace Go.Proofs.YtfplmcpkagpaiaaGreatDoor.Fl
open Go Go.Sim
@[simp] theorem clone_eInstr (l : List Instr) (h : Heap) : cloneWL 17592186044416 2 [lst eInstr l] h = if 17592186044416 < l.length then none else if l = [] then some (.scon [] 0 0 false, h) else
  some (.sref 0 (h.top.length + 1) 0 l.length 0 (2, false), (Go.Sim.newRow (h.push (.row [] 0 2 true true)) (cat eInstr l) 2).2) := clone_lst eInstr l h 2 rfl
theorem Row_body (c : List Instr) (a e : Nat) (hc : c.length ≤ 17592186044416) (h : Heap) (hne : c ≠ []) : bodyV E (om E) 30 [lst eInstr c, .int .u32 a, .int .u32 e] ([] :: h) =
  some (.func (.func 66) [] [.pref 0 0 0 0, .pref 0 1 0 0, .pref 0 4 0 0], [.row [.int .u32 a] 0 1 true true, .row [.int .u32 e] 0 1 true true, .row [] 0 2 true true, .row (cat eInstr c) 0 2 true true, .row [.sref 0 3 0 c.length 0 (2, false)] 0 1 false false] :: h) := by
 apply bo_30
 simp (disch := omega) [if_pos, if_neg, iteK_pos, iteK_neg, Tryz.f30, hne]
theorem Row_at (c : List Instr) (a e : Nat) (hc : c.length ≤ 17592186044416) (hne : c ≠ []) (B : List Blk) (r : Heap) : callV E (om E) 30 [lst eInstr c, .int .u32 a, .int .u32 e] (B :: r) =
  some (.func (.func 66) [] [.pref 0 B.length 0 0, .pref 0 (B.length + 1) 0 0, .pref 0 (B.length + 4) 0 0], (B ++ [.row [.int .u32 a] 0 1 true true, .row [.int .u32 e] 0 1 true true, .row [] 0 2 true true, .row (cat eInstr c) 0 2 true true, .row [.sref 0 (B.length + 3) 0 c.length 0 (2, false)] 0 1 false false]) :: r) := by
 rw [call_30]
 simp (disch := omega) [if_pos, if_neg, iteK_pos, iteK_neg, Row_body, hne]
theorem opF_lt {w : List Instr} {n : Nat} (h : (opF w n).op ≠ 0) : n < w.length := by
 apply Classical.byContradiction
 intro hn
 apply h
 unfold opF
 rw [List.getElem?_eq_none (by omega)]
 rfl
theorem foldGo_le : ∀ (w : List Instr) (i : Nat) (l : FL) (b : Nat × Nat × Nat), 1 ≤ b.1 → b.1 ≤ i + w.length → 1 ≤ (foldGo w i l b).1 ∧ (foldGo w i l b).1 ≤ i + w.length
 | [], i, l, b, h1, hb => ⟨h1, hb⟩
 | x :: r, i, l, b, h1, hb => by
  rw [foldGo]; dsimp only
  rw [List.length_cons] at hb ⊢
  split
  ·exact ⟨h1, hb⟩
  ·have : ∀ (b' : Nat × Nat × Nat), 1 ≤ b'.1 → b'.1 ≤ i + (r.length + 1) → 1 ≤ (if (takeF l x).1 = 0 then foldGo r (i + 1) (takeF l x).2 b' else b').1 ∧ (if (takeF l x).1 = 0 then foldGo r (i + 1) (takeF l x).2 b' else b').1 ≤ i + (r.length + 1) := by
    intro b' h1' hb'
    split
    ·have := foldGo_le r (i + 1) (takeF l x).2 b' h1' (by omega)
     omega
    ·exact ⟨h1', hb'⟩
   apply this
   ·repeat' split
    all_goals first | exact h1 | (dsimp only; omega)
   ·repeat' split
    all_goals first | exact hb | (dsimp only; omega)
theorem foldF_le {w : List Instr} {p : Nat × Nat × Nat} (h : foldF w = .ok p) : p.1 ≤ w.length := by
 cases w with
 | nil => simp [foldF] at h
 | cons x r =>
  unfold foldF at h
  dsimp only at h
  split at h
  ·simp only [Except.ok.injEq] at h
   have := (foldGo_le (x :: r) 0 FL.nil (1, 1, 0) (by omega) (by simp)).2
   rw [h] at this
   omega
  ·cases h
theorem foldedF_le (k : Nat) (w : List Instr) : (foldedF k w).len ≤ w.length := by
 unfold foldedF
 split
 ·rename_i p hp
  split
  ·exact foldF_le hp
  ·simp [Shp.none]
 ·simp [Shp.none]
theorem behindGo_le {is : Nat → Bool} {o b : Bool} {w : List Instr} (h0 : is 0 = false) : ∀ n, (behindGo is o b w n).len ≤ w.length
 | 0 => by simp [behindGo, Shp.none]
 | n + 1 => by
  rw [behindGo]
  split
  ·rename_i h
   have := opF_lt (w := w) (n := n + 1) (by intro h1; rw [h1, h0] at h; cases h.2)
   show n + 2 ≤ _
   omega
  ·exact behindGo_le h0 n
theorem localF_le {ld : Bool} {is : Nat → Bool} {o b : Bool} {w : List Instr} (h0 : is 0 = false) : (localF ld is o b w).len ≤ w.length := by
 have key : ∀ n, is (opF w n).op = true → n < w.length := by
  intro n h
  refine opF_lt fun h1 => ?_
  rw [h1, h0] at h; cases h
 cases ld with
 | true =>
  show (if (opF w 0).op = 9 ∧ is (opF w 2).op = true ∧ (true = true → (opF w 1).op = 31) then keepF o b ⟨3, 0, (opF w 0).arg, 0⟩ (opF w 2) else Shp.none).len ≤ _
  by_cases h : (opF w 0).op = 9 ∧ is (opF w 2).op = true ∧ (true = true → (opF w 1).op = 31)
  ·have := key 2 h.2.1
   rw [if_pos h]
   show 3 ≤ _
   omega
  ·rw [if_neg h]; exact Nat.zero_le _
 | false =>
  show (if (opF w 0).op = 9 ∧ is (opF w 1).op = true ∧ (false = true → (opF w 1).op = 31) then keepF o b ⟨2, 0, (opF w 0).arg, 0⟩ (opF w 1) else Shp.none).len ≤ _
  by_cases h : (opF w 0).op = 9 ∧ is (opF w 1).op = true ∧ (false = true → (opF w 1).op = 31)
  ·have := key 1 h.2.1
   rw [if_pos h]
   show 2 ≤ _
   omega
  ·rw [if_neg h]; exact Nat.zero_le _
theorem bumpGo_le {w : List Instr} : ∀ n, (bumpGo w n).len ≤ w.length
 | 0 => by simp [bumpGo, Shp.none]
 | n + 1 => by
  rw [bumpGo]
  split
  ·rename_i h
   have := opF_lt (w := w) (n := n + 5) (by rw [h.2.2]; omega)
   show n + 6 ≤ _
   omega
  ·exact bumpGo_le n
theorem fitsF_le (w : List Instr) (k : Nat) : (fitsF w k).len ≤ w.length := by
 have hb : binF 0 = false := by simp [binF, isOp]
 unfold fitsF
 split
 ·unfold oneS
  split
  ·simp [Shp.none]
  ·rename_i h; have := opF_lt h; dsimp only; omega
 ·exact foldedF_le _ _
 ·exact foldedF_le _ _
 ·exact foldedF_le _ _
 ·exact behindGo_le hb _
 ·exact behindGo_le rfl _
 ·exact behindGo_le rfl _
 ·exact behindGo_le rfl _
 ·exact behindGo_le rfl _
 ·exact behindGo_le rfl _
 ·exact localF_le rfl
 ·exact localF_le rfl
 ·exact localF_le hb
 ·exact localF_le rfl
 ·unfold bumpF
  split
  ·exact bumpGo_le _
  ·simp [Shp.none]
 ·simp [Shp.none]
theorem longGo_le (w : List Instr) : ∀ (n k : Nat) (b : Nat × Shp), b.2.len ≤ w.length → b.2.len ≤ (longGo w n k b).2.len ∧ (longGo w n k b).2.len ≤ w.length
 | 0, k, b, h => ⟨Nat.le_refl _, h⟩
 | n + 1, k, b, h => by
  rw [longGo]
  by_cases h1 : b.2.len < (fitsF w k).len
  ·rw [if_pos h1]
   have := longGo_le w n (k + 1) (k, fitsF w k) (fitsF_le w k)
   exact ⟨by have := this.1; dsimp only at this; omega, this.2⟩
  ·rw [if_neg h1]; exact longGo_le w n (k + 1) b h
theorem longF_le {w : List Instr} {p : Nat × Shp} (h : longF w = .ok p) : 1 ≤ p.2.len ∧ p.2.len ≤ w.length := by
 cases w with
 | nil => simp [longF] at h
 | cons x r =>
  unfold longF at h
  dsimp only at h
  split at h
  ·rename_i hx
   simp only [Except.ok.injEq] at h
   rw [← h]
   have h1 := fits_one (w := x :: r) rfl hx
   have e : longGo (x :: r) 15 1 (0, Shp.none) = longGo (x :: r) 14 2 (1, fitsF (x :: r) 1) := by
    rw [longGo, if_pos (by rw [h1]; simp [Shp.none])]
   have := longGo_le (x :: r) 14 2 (1, fitsF (x :: r) 1) (fitsF_le _ _)
   rw [e]
   exact ⟨by have := this.1; dsimp only at this; omega, this.2⟩
  ·cases h
theorem longF_err {c : List Instr} {a e x : Nat} (ha : a < e) (he : e ≤ c.length) (h : longF (win c a e) = .error x) : insBad c[a] ≠ 0 ∧ x = insBad c[a] := by
 rw [win_cons ha he] at h
 unfold longF at h
 dsimp only at h
 split at h
 ·cases h
 ·rename_i hx; simp only [Except.error.injEq] at h; exact ⟨hx, h.symm⟩
section
variable {c : List Instr} {a e : Nat} (LB : Blk)
end
end Go.Proofs.YtfplmcpkagpaiaaGreatDoor.Fl
end
section
namespace Go.Proofs.YtfplmcpkagpaiaaGreatDoor.Fl
open Go Go.Sim Go.Sim.Cell
structure Cl where
 at_ : Nat
 len : Nat
 kind : Nat
 op : Nat
 a : Nat
 b : Nat
 to : Nat
 deriving DecidableEq, Inhabited
def eCl : Enc Cl where
 enc x := [.int .u32 x.at_, .int .u32 x.len, .int .u8 x.kind, .int .u8 x.op, .int .u32 x.a, .int .u32 x.b, .int .u32 x.to]
 k := 7
 pos := by omega
 len := fun _ => rfl
 canon := fun _ => by simp
 flat := fun _ => by simp
 ok := fun _ => by simp
@[simp] theorem eCl_k : eCl.k = 7 := rfl
@[simp] theorem eCl_enc (x) : eCl.enc x = [.int .u32 x.at_, .int .u32 x.len, .int .u8 x.kind, .int .u8 x.op, .int .u32 x.a, .int .u32 x.b, .int .u32 x.to] := rfl
@[simp] theorem take_eCl (l) (n : Nat) : (cat eCl l).take (n * 7) = cat eCl (l.take n) := cat_take eCl l n
structure FCl (x : Cl) : Prop where
 at_ : x.at_ < 4294967296
 len : x.len < 4294967296
 kind : x.kind < 256
 op : x.op < 256
 a : x.a < 4294967296
 b : x.b < 4294967296
 to : x.to < 4294967296
def addS (n : Nat) (p : Nat → Bool) (x : Nat) : Nat → Bool := if x < n + 1 then put p x else p
def jmpS (n : Nat) : List Nat → (Nat → Bool) → Nat → Bool
 | [], p => p
 | x :: r, p => jmpS n r (addS n p x)
def insS (n i : Nat) (x : Instr) (p : Nat → Bool) : Nat → Bool :=
 if kindF x.op = 6 then addS n p i else if kindF x.op = 3 ∨ kindF x.op = 2 then addS n p x.arg else if kindF x.op = 5 then addS n p (i + 1) else p
def codS (n : Nat) : List Instr → Nat → (Nat → Bool) → Nat → Bool
 | [], _, p => p
 | x :: r, i, p => codS n r (i + 1) (insS n i x p)
def leadS (c : List Instr) (j : List Nat) : Nat → Bool := drop (codS c.length c 0 (jmpS c.length j fun _ => false)) c.length
def fitB (c : List Instr) (x : Cl) : Bool := decide (1 ≤ x.kind ∧ x.kind ≤ 15 ∧ fitsF (win c x.at_ (x.at_ + x.len)) x.kind = ⟨x.len, x.op, x.a, x.b⟩)
def anyL (ld : Nat → Bool) (i : Nat) : Nat → Bool
 | 0 => false
 | n + 1 => ld i || anyL ld (i + 1) n
theorem anyL_iff (ld : Nat → Bool) : ∀ n i, anyL ld i n = false ↔ ∀ k, i ≤ k → k < i + n → ld k = false
 | 0, i => by simp [anyL]; intro k h1 h2; omega
 | n + 1, i => by
  rw [anyL, Bool.or_eq_false_iff, anyL_iff ld n (i + 1)]
  constructor
  ·rintro ⟨h1, h2⟩ k h3 h4
   by_cases hk : k = i
   ·subst hk; exact h1
   ·exact h2 k (by omega) (by omega)
  ·intro h
   exact ⟨h i (by omega) (by omega), fun k h3 h4 => h k (by omega) (by omega)⟩
def covGo (c : List Instr) (ld : Nat → Bool) : List Cl → Nat → Nat → Nat × Nat × Nat
 | [], n, m => (n, 0, m)
 | x :: r, n, m =>
  if x.at_ ≠ m ∨ x.len = 0 ∨ c.length < m + x.len then (n, 231, m)
  else if anyL ld (x.at_ + 1) (x.len - 1) then (n, 232, m)
  else if fitB c x then covGo c ld r (n + 1) (m + x.len) else (n, 230, m)
structure Good (c : List Instr) (ld : Nat → Bool) (x : Cl) (m : Nat) : Prop where
 at_ : x.at_ = m
 pos : 0 < x.len
 le : m + x.len ≤ c.length
 none : ∀ k, m < k → k < m + x.len → ld k = false
 fit : fitB c x = true
def Cov (c : List Instr) (ld : Nat → Bool) : List Cl → Nat → Nat → Prop
 | [], m, e => m = e
 | x :: r, m, e => Good c ld x m ∧ Cov c ld r (m + x.len) e
theorem covGo_iff (c : List Instr) (ld : Nat → Bool) (e : Nat) : ∀ (l : List Cl) (n m : Nat), ((covGo c ld l n m).2.1 = 0 ∧ (covGo c ld l n m).2.2 = e) ↔ Cov c ld l m e
 | [], n, m => by simp [covGo, Cov]
 | x :: r, n, m => by
  rw [covGo, Cov]
  by_cases h1 : x.at_ ≠ m ∨ x.len = 0 ∨ c.length < m + x.len
  ·rw [if_pos h1]
   constructor
   ·rintro ⟨h, _⟩; simp at h
   ·rintro ⟨g, _⟩
    have := g.at_; have := g.pos; have := g.le
    omega
  rw [if_neg h1]
  cases h2 : anyL ld (x.at_ + 1) (x.len - 1) with
  | true =>
   rw [if_pos rfl]
   constructor
   ·rintro ⟨h, _⟩; simp at h
   ·rintro ⟨g, _⟩
    have h3 := (anyL_iff ld (x.len - 1) (x.at_ + 1)).2 fun k h4 h5 => g.none k (by have := g.at_; omega) (by have := g.at_; omega)
    rw [h2] at h3; cases h3
  | false =>
   rw [if_neg (by simp)]
   cases h3 : fitB c x with
   | false =>
    rw [if_neg (by simp)]
    constructor
    ·rintro ⟨h, _⟩; simp at h
    ·rintro ⟨g, _⟩
     have := g.fit
     rw [h3] at this; cases this
   | true =>
    rw [if_pos rfl, covGo_iff c ld e r (n + 1) (m + x.len)]
    constructor
    ·intro h
     exact ⟨⟨by omega, by omega, by omega, fun k h4 h5 => (anyL_iff ld (x.len - 1) (x.at_ + 1)).1 h2 k (by omega) (by omega), h3⟩, h⟩
    ·exact fun h => h.2
theorem cov_app (c : List Instr) (ld : Nat → Bool) (e : Nat) : ∀ (l1 l2 : List Cl) (m : Nat), Cov c ld (l1 ++ l2) m e ↔ ∃ k, Cov c ld l1 m k ∧ Cov c ld l2 k e
 | [], l2, m => by simp [Cov]
 | x :: r, l2, m => by
  rw [List.cons_append, Cov, cov_app c ld e r l2]
  constructor
  ·rintro ⟨g, k, h1, h2⟩; exact ⟨k, ⟨g, h1⟩, h2⟩
  ·rintro ⟨k, ⟨g, h1⟩, h2⟩; exact ⟨g, k, h1, h2⟩
theorem cov_le (c : List Instr) (ld : Nat → Bool) {e : Nat} : ∀ (l : List Cl) {m : Nat}, Cov c ld l m e → m ≤ e
 | [], m, h => Nat.le_of_eq h
 | x :: r, m, h => Nat.le_trans (Nat.le_add_right _ _) (cov_le c ld r h.2)
def begGo : List Cl → Nat → List Nat → List Nat
 | [], _, l => l
 | x :: r, i, l => begGo r (i + 1) (l.set x.at_ i)
def begF (n : Nat) (l : List Cl) : List Nat := begGo l 0 (List.replicate n 4294967295)
theorem begGo_len : ∀ (l : List Cl) (i : Nat) (o : List Nat), (begGo l i o).length = o.length
 | [], i, o => rfl
 | x :: r, i, o => by rw [begGo, begGo_len r]; simp
@[simp] theorem begF_len (n : Nat) (l : List Cl) : (begF n l).length = n := by simp [begF, begGo_len]
def tgtF (x : Cl) : Option Nat :=
 if x.kind = 3 then some x.a else if x.kind = 6 ∨ x.kind = 14 then some x.b else if x.kind = 1 ∧ (kindF x.op = 3 ∨ kindF x.op = 2) then some x.a else none
def toF (o : List Nat) (x : Cl) : Nat := match tgtF x with | some t => o.getD t 4294967295 | none => 4294967295
def tosGo (o : List Nat) : List Cl → Nat → Nat × Nat
 | [], _ => (0, 0)
 | x :: r, n => if x.to = toF o x then tosGo o r (n + 1) else (n, 230)
theorem tosGo_ok (o : List Nat) : ∀ (l : List Cl) (n : Nat), (∀ x ∈ l, x.to = toF o x) → tosGo o l n = (0, 0)
 | [], n, _ => rfl
 | x :: r, n, h => by rw [tosGo, if_pos (h x (by simp)), tosGo_ok o r (n + 1) fun y hy => h y (by simp [hy])]
def mapsF (n : Nat) (l : List Cl) (bg : List Nat) (whole : Bool) : Nat × Nat :=
 if whole then (if begF n l = bg then tosGo (begF n l) l 0 else (l.length, 233)) else (l.length, 231)
def checkC (c : List Instr) (ld : Nat → Bool) (l : List Cl) (bg : List Nat) : Nat × Nat :=
 if (covGo c ld l 0 0).2.1 = 0 then mapsF c.length l bg (decide ((covGo c ld l 0 0).2.2 = c.length)) else ((covGo c ld l 0 0).1, (covGo c ld l 0 0).2.1)
theorem checkC_ok {c : List Instr} {ld : Nat → Bool} {l : List Cl} {bg : List Nat} (h : Cov c ld l 0 c.length) (h1 : begF c.length l = bg) (h2 : ∀ x ∈ l, x.to = toF bg x) : checkC c ld l bg = (0, 0) := by
 obtain ⟨e1, e2⟩ := (covGo_iff c ld c.length l 0 0).2 h
 subst h1
 unfold checkC mapsF
 rw [if_pos e1, decide_eq_true e2, if_pos rfl, if_pos rfl, tosGo_ok _ _ _ h2]
def madeL (n : Nat) (l : List Cl) : List Cl := l.map fun x => { x with to := toF (begF n l) x }
theorem begGo_to (f : Cl → Nat) : ∀ (l : List Cl) (i : Nat) (o : List Nat), begGo (l.map fun x => { x with to := f x }) i o = begGo l i o
 | [], i, o => rfl
 | x :: r, i, o => by rw [List.map_cons, begGo, begGo, begGo_to f r]
theorem cov_to (c : List Instr) (ld : Nat → Bool) (f : Cl → Nat) {e : Nat} : ∀ (l : List Cl) {m : Nat}, Cov c ld l m e → Cov c ld (l.map fun x => { x with to := f x }) m e
 | [], m, h => h
 | x :: r, m, h => by
  rw [List.map_cons, Cov]
  exact ⟨⟨h.1.at_, h.1.pos, h.1.le, h.1.none, h.1.fit⟩, cov_to c ld f r h.2⟩
theorem made_ok {c : List Instr} {ld : Nat → Bool} {l : List Cl} (h : Cov c ld l 0 c.length) : checkC c ld (madeL c.length l) (begF c.length l) = (0, 0) := by
 refine checkC_ok (cov_to c ld _ l h) (begGo_to _ _ _ _) ?_
 intro x hx
 obtain ⟨y, hy, rfl⟩ := List.mem_map.1 hx
 rfl
def ones (c : List Instr) (m : Nat) : Nat → List Cl
 | 0 => []
 | n + 1 => ones c m n ++ [⟨m + n, 1, 1, (c.getD (m + n) i0).op, (c.getD (m + n) i0).arg, 0, 0⟩]
end Go.Proofs.YtfplmcpkagpaiaaGreatDoor.Fl
end
section
namespace Go.Proofs.YtfplmcpkagpaiaaGreatDoor.Fl
open Go Go.Sim Go.Sim.Cell
def eW64 : Enc Nat where
 enc x := [.int .u64 x]
 k := 1
 pos := by omega
 len := fun _ => rfl
 canon := fun _ => by simp
 flat := fun _ => by simp
 ok := fun _ => by simp
@[simp] theorem eW64_k : eW64.k = 1 := rfl
@[simp] theorem eW64_enc (x) : eW64.enc x = [.int .u64 x] := rfl
@[simp] theorem plain_eW64 (l) : V.plainL (cat eW64 l) = true := cat_plain eW64 (fun _ => by simp) l
@[simp] theorem eW64_len (l : List Nat) : (cat eW64 l).length = l.length := by rw [cat_length]; simp
theorem make_u64s (B : List Blk) (r : Heap) (n : Nat) (hn : n ≤ 16385) : makeSliceV Tryz.prog (B :: r) 146 (ii n) (ii n) = some (.sref 0 B.length 0 n 0 (1, true), (B ++ [.row (cat eW64 (List.replicate n 0)) 0 1 true true]) :: r) := by
 unfold makeSliceV
 rw [show Tryz.prog.underlying 146 = some (.slice 57) by kernel_rfl]
 dsimp only
 rw [show zeroV Tryz.prog 57 = some (.int .u64 0) by kernel_rfl, show bytesV Tryz.prog 57 = some 8 by kernel_rfl, show sizeV Tryz.prog 57 = some 1 by kernel_rfl]
 have hc : V.cells (.int .u64 0) = eW64.enc 0 := by simp
 have hr : rep (eW64.enc 0) n = cat eW64 (List.replicate n 0) := rep_cat eW64 0 n
 simp only [Option.bind_some, hc, newRow, Int.toNat_natCast, hr]
 rw [if_pos (by simp; omega)]
 simp [Heap.push, Heap.top, Heap.setTop]
abbrev wR (ws : List Nat) : Blk := .row (cat eW64 ws) 0 1 true true
abbrev bR (n m : Nat) : Blk := .row [ii n, .sref 0 0 0 m 0 (1, true)] 0 2 false false
abbrev setV (n : Nat) (ws : List Nat) : V := .pcon [ii n, lst eW64 ws] 0
theorem NewSet_body (n : Nat) (hn : n ≤ 16385) : bodyV E (om E) 59 [ii n] [[]] = some (.tuple [.pref 0 1 0 0, ii 0], [[wR (List.replicate ((n + 63) / 64) 0), bR n ((n + 63) / 64)]]) := by
 apply bo_59
 have e1 : ((n : Int) + 63) / 64 = (((n + 63) / 64 : Nat) : Int) := by omega
 have hm := fun B r => make_u64s B r ((n + 63) / 64) (by omega)
 generalize (n + 63) / 64 = m at *
 simp (disch := omega) [if_pos, if_neg, iteK_pos, iteK_neg, Tryz.f59, e1, hm]
theorem eq_setp (x y : Operand) (c : List V) (o : Nat) : binO E .eql 84 x y (.pcon c o) .nilptr = some (.bool false) := by
 have hu := Tryz.underlying84
 rw [← E_P] at hu
 simp [binO, binV, eqV, hu]
theorem wrap_bit (x : Nat) : IntKind.u64.wrap (2 ^ ((x : Int) % 64).toNat) = ((2 ^ (x % 64) : Nat) : Int) := by
 have h := pow64_lt x
 have e : ((x : Int) % 64).toNat = x % 64 := by omega
 rw [e, IntKind.wrap_u64, show ((2 : Int) ^ (x % 64)) = ((2 ^ (x % 64) : Nat) : Int) by push_cast; rfl]
 generalize 2 ^ (x % 64) = Q at *
 omega
theorem SHolds (lent) (n : Nat) (ws : List Nat) (x : Nat) (hn : n < 4294967296) (hx : x < 4294967296) : pureV E (om E) 62 lent [setV n ws, .int .u32 x] =
  some (if x < n then .tuple [ii (x / 64), .int .u64 (2 ^ (x % 64) : Nat), bb true] else .tuple [ii 0, .int .u64 0, bb false]) := by
 apply pu_62
 by_cases h : x < n
 ·rw [if_pos h]
  simp (disch := omega) [if_pos, if_neg, iteK_pos, iteK_neg, Tryz.f62, h, eq_setp, wrap_bit]
 ·rw [if_neg h]
  simp (disch := omega) [if_pos, if_neg, iteK_pos, iteK_neg, Tryz.f62, h, eq_setp]
theorem div64 (x : Nat) : ((x : Int) / 64).toNat = x / 64 := by omega
theorem setW_get? (p : Nat → Bool) (m w : Nat) (h : w < m) : (setW p m)[w]? = some (word p w) := by
 rw [List.getElem?_eq_getElem (by simp; exact h), setW_get p m w h]
theorem Has (lent) (p : Nat → Bool) (n m x : Nat) (hn : n ≤ 64 * m) (hm : n < 4294967296) (hx : x < 4294967296) : pureV E (om E) 24 lent [setV n (setW p m), .int .u32 x] = some (bb (decide (x < n) && p x)) := by
 have hH := fun lent => SHolds lent n (setW p m) x hm hx
 have hg := and_bit p x
 have hpos : (0 : Int) < ((2 ^ (x % 64) : Nat) : Int) := by have := Nat.two_pow_pos (x % 64); omega
 apply pu_24
 by_cases h : x < n
 ·rw [if_pos h] at hH
  have hi : x / 64 < m := by omega
  have hget := setW_get? p m (x / 64) hi
  have hb := pow64_lt x
  have hd := div64 x
  have hi' : (x : Int) / 64 < m := by omega
  generalize 2 ^ (x % 64) = Q at *
  by_cases hp : p x = true
  ·rw [if_pos hp] at hg
   have hQ : ¬ Q = 0 := by omega
   simp (disch := omega) [if_pos, if_neg, iteK_pos, iteK_neg, hQ, Tryz.f24, hH, h, hp, hg, hget, hd, hi']
  ·rw [if_neg hp] at hg
   simp (disch := omega) [if_pos, if_neg, iteK_pos, iteK_neg, Tryz.f24, hH, h, hp, hg, hget, hd, hi']
 ·rw [if_neg h] at hH
  simp (disch := omega) [if_pos, if_neg, iteK_pos, iteK_neg, Tryz.f24, hH, h]
end Go.Proofs.YtfplmcpkagpaiaaGreatDoor.Fl
end
section
namespace Go.Proofs.YtfplmcpkagpaiaaGreatDoor.Fl
open Go Go.Sim Go.Sim.Cell
theorem put_same {p : Nat → Bool} {x : Nat} (h : p x = true) : Cell.put p x = p := by
 funext i
 unfold Cell.put
 by_cases hi : i = x
 ·subst hi; simp [h]
 ·simp [hi]
theorem drop_same {p : Nat → Bool} {x : Nat} (h : p x = false) : drop p x = p := by
 funext i
 unfold drop
 by_cases hi : i = x
 ·subst hi; simp [h]
 ·simp [hi]
theorem set_put (p : Nat → Bool) (m x : Nat) : (setW p m).set (x / 64) (word (Cell.put p x) (x / 64)) = setW (Cell.put p x) m :=
 setW_set rfl fun i hi => by unfold Cell.put; rw [decide_eq_false (by intro h; subst h; exact hi rfl), Bool.or_false]
theorem set_drop (p : Nat → Bool) (m x : Nat) : (setW p m).set (x / 64) (word (drop p x) (x / 64)) = setW (drop p x) m :=
 setW_set rfl fun i hi => by unfold drop; rw [decide_eq_true (by intro h; subst h; exact hi rfl), Bool.and_true]
@[simp] theorem cut_setW (p : Nat → Bool) (m : Nat) : V.scon (V.canonL (cutCells (cat eW64 (setW p m)) 0 m 1)) 0 m false = lst eW64 (setW p m) := by
 have h : cutCells (cat eW64 (setW p m)) 0 m 1 = cat eW64 (setW p m) := by
  unfold cutCells
  rw [if_neg (by omega), List.drop_zero, List.take_of_length_le (by rw [eW64_len]; simp)]
 rw [h]
 simp [lst]
theorem setW_cell (p : Nat → Bool) (m w : Nat) (h : w < m) : (cat eW64 (setW p m))[w]? = some (.int .u64 (word p w : Nat)) := by
 have := cat_get eW64 (setW p m) w 0 (by simp)
 simpa [setW_get? p m w h] using this
theorem cat_set64 : ∀ (l : List Nat) (i y : Nat), (cat eW64 l).set i (.int .u64 (y : Int)) = cat eW64 (l.set i y)
 | [], i, y => by simp
 | x :: r, 0, y => by simp [cat_cons]
 | x :: r, i + 1, y => by simp [cat_cons, cat_set64 r i y]
theorem cell_set (p q : Nat → Bool) (m w : Nat) (h : (setW p m).set w (word q w) = setW q m) : (cat eW64 (setW p m)).set w (.int .u64 (IntKind.u64.wrap (word q w : Nat))) = cat eW64 (setW q m) := by
 have hw : IntKind.u64.wrap ((word q w : Nat) : Int) = ((word q w : Nat) : Int) := by
  have := word_lt q w
  rw [IntKind.wrap_u64]; omega
 rw [hw, ← h]
 exact cat_set64 _ _ _
theorem cell_put (p : Nat → Bool) (m x : Nat) : (cat eW64 (setW p m)).set (x / 64) (.int .u64 (IntKind.u64.wrap (word (Cell.put p x) (x / 64) : Nat))) = cat eW64 (setW (Cell.put p x) m) := cell_set _ _ _ _ (set_put p m x)
theorem cell_drop (p : Nat → Bool) (m x : Nat) : (cat eW64 (setW p m)).set (x / 64) (.int .u64 (IntKind.u64.wrap (word (drop p x) (x / 64) : Nat))) = cat eW64 (setW (drop p x) m) := cell_set _ _ _ _ (set_drop p m x)
theorem Add_at (p : Nat → Bool) (n m x : Nat) (hn : n ≤ 64 * m) (hm : n < 4294967296) (hx : x < 4294967296) (rest : List Blk) : callV E (om E) 60 [.pref 0 1 0 0, .int .u32 x] [wR (setW p m) :: bR n m :: rest] =
  some (bb (decide (x < n) && !p x), [wR (setW (if x < n then Cell.put p x else p) m) :: bR n m :: rest]) := by
 have hH := fun lent => SHolds lent n (setW p m) x hm hx
 have hg := and_bit p x
 have ho := or_bit p x
 have hpos : (0 : Int) < ((2 ^ (x % 64) : Nat) : Int) := by have := Nat.two_pow_pos (x % 64); omega
 apply he_60
 by_cases h : x < n
 ·rw [if_pos h] at hH
  have hi : x / 64 < m := by omega
  have hget := setW_cell p m (x / 64) hi
  have hb := pow64_lt x
  have hd := div64 x
  have hi' : (x : Int) / 64 < m := by omega
  have hs := set_put p m x
  generalize 2 ^ (x % 64) = Q at *
  by_cases hp : p x = true
  ·rw [if_pos hp] at hg
   have hQ : ¬ Q = 0 := by omega
   simp (disch := omega) [if_pos, if_neg, iteK_pos, iteK_neg, V.upIf, hQ, Tryz.f60, hH, h, hp, hg, hget, hd, hi', put_same hp]
  ·rw [if_neg hp] at hg
   simp (disch := omega) [if_pos, if_neg, iteK_pos, iteK_neg, V.upIf, Tryz.f60, hH, h, hp, hg, ho, hget, hd, hi']
   exact cell_put _ _ _
 ·rw [if_neg h] at hH
  simp (disch := omega) [if_pos, if_neg, iteK_pos, iteK_neg, V.upIf, Tryz.f60, hH, h]
theorem Drop_at (p : Nat → Bool) (n m x : Nat) (hn : n ≤ 64 * m) (hm : n < 4294967296) (hx : x < 4294967296) (rest : List Blk) : callV E (om E) 61 [.pref 0 1 0 0, .int .u32 x] [wR (setW p m) :: bR n m :: rest] =
  some (bb (decide (x < n) && p x), [wR (setW (if x < n then drop p x else p) m) :: bR n m :: rest]) := by
 have hH := fun lent => SHolds lent n (setW p m) x hm hx
 have hg := and_bit p x
 have ho := andNot_bit p x
 have hpos : (0 : Int) < ((2 ^ (x % 64) : Nat) : Int) := by have := Nat.two_pow_pos (x % 64); omega
 apply he_61
 by_cases h : x < n
 ·rw [if_pos h] at hH
  have hi : x / 64 < m := by omega
  have hget := setW_cell p m (x / 64) hi
  have hb := pow64_lt x
  have hd := div64 x
  have hi' : (x : Int) / 64 < m := by omega
  have hs := set_put p m x
  generalize 2 ^ (x % 64) = Q at *
  by_cases hp : p x = true
  ·rw [if_pos hp] at hg
   have hQ : ¬ Q = 0 := by omega
   simp (disch := omega) [if_pos, if_neg, iteK_pos, iteK_neg, V.upIf, hQ, Tryz.f61, hH, h, hp, hg, ho, hget, hd, hi']
   exact cell_drop _ _ _
  ·rw [if_neg hp] at hg
   simp (disch := omega) [if_pos, if_neg, iteK_pos, iteK_neg, V.upIf, Tryz.f61, hH, h, hp, hg, hget, hd, hi', drop_same (by simpa using hp)]
 ·rw [if_neg h] at hH
  simp (disch := omega) [if_pos, if_neg, iteK_pos, iteK_neg, V.upIf, Tryz.f61, hH, h]
end Go.Proofs.YtfplmcpkagpaiaaGreatDoor.Fl
end
