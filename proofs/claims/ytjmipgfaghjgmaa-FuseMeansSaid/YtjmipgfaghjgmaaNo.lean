/-
  Package fuse: Row; FuseCovers.
-/
import Derived.Test.YtjmipgfaghjgmaaNj
section
namespace Go.Proofs.Ytjmipgfaghjgmaa
open Go Go.Sim
set_option maxRecDepth 100000
set_option linter.unusedSimpArgs false
set_option linter.unusedVariables false
@[simp] theorem clone_eInstr (l : List Instr) (h : Heap) : cloneWL 17592186044416 2 [lst eInstr l] h = if 17592186044416 < l.length then none else if l = [] then some (.scon [] 0 0 false, h) else
    some (.sref 0 (h.top.length + 1) 0 l.length 0 (2, false), (Go.Sim.newRow (h.push (.row [] 0 2 true true)) (cat eInstr l) 2).2) := clone_lst eInstr l h 2 rfl
theorem Row_body (c : List Instr) (a e : Nat) (hc : c.length ≤ 17592186044416) (h : Heap) (hne : c ≠ []) : bodyV E (om E) 16 [lst eInstr c, .int .u32 a, .int .u32 e] ([] :: h) =
    some (.func (.func 29) [] [.pref 0 0 0 0, .pref 0 1 0 0, .pref 0 4 0 0], [.row [.int .u32 a] 0 1 true true, .row [.int .u32 e] 0 1 true true, .row [] 0 2 true true, .row (cat eInstr c) 0 2 true true, .row [.sref 0 3 0 c.length 0 (2, false)] 0 1 false false] :: h) := by
  apply bo_16
  simp (disch := omega) [if_pos, if_neg, iteK_pos, iteK_neg, Try.f16, hne]
theorem Row_body0 (a e : Nat) (h : Heap) : bodyV E (om E) 16 [.scon [] 0 0 false, .int .u32 a, .int .u32 e] ([] :: h) =
    some (.func (.func 29) [] [.pref 0 0 0 0, .pref 0 1 0 0, .pref 0 2 0 0], [.row [.int .u32 a] 0 1 true true, .row [.int .u32 e] 0 1 true true, .row [.scon [] 0 0 false] 0 1 true false] :: h) := by
  apply bo_16
  simp (disch := omega) [if_pos, if_neg, iteK_pos, iteK_neg, Try.f16]
theorem Row_at (c : List Instr) (a e : Nat) (hc : c.length ≤ 17592186044416) (hne : c ≠ []) (B : List Blk) (r : Heap) : callV E (om E) 16 [lst eInstr c, .int .u32 a, .int .u32 e] (B :: r) =
    some (.func (.func 29) [] [.pref 0 B.length 0 0, .pref 0 (B.length + 1) 0 0, .pref 0 (B.length + 4) 0 0], (B ++ [.row [.int .u32 a] 0 1 true true, .row [.int .u32 e] 0 1 true true, .row [] 0 2 true true, .row (cat eInstr c) 0 2 true true, .row [.sref 0 (B.length + 3) 0 c.length 0 (2, false)] 0 1 false false]) :: r) := by
  rw [call_16]
  simp (disch := omega) [if_pos, if_neg, iteK_pos, iteK_neg, Row_body, hne]
theorem Row_at0 (a e : Nat) (B : List Blk) (r : Heap) : callV E (om E) 16 [.scon [] 0 0 false, .int .u32 a, .int .u32 e] (B :: r) =
    some (.func (.func 29) [] [.pref 0 B.length 0 0, .pref 0 (B.length + 1) 0 0, .pref 0 (B.length + 2) 0 0], (B ++ [.row [.int .u32 a] 0 1 true true, .row [.int .u32 e] 0 1 true true, .row [.scon [] 0 0 false] 0 1 true false]) :: r) := by
  rw [call_16]
  simp (disch := omega) [if_pos, if_neg, iteK_pos, iteK_neg, Row_body0]
theorem eql_nilfunc (x y : Operand) (f a b) : binO E .eql 53 x y (.func f a b) .nilfunc = some (.bool false) := by
  have hu := Try.underlying53
  rw [← E_P] at hu
  simp [binO, binV, eqV, hu]
/-! How far a thing goes. -/
theorem opF_lt {w : List Instr} {n : Nat} (h : (opF w n).op ≠ 0) : n < w.length := by
  apply Classical.byContradiction
  intro hn
  apply h
  unfold opF
  rw [List.getElem?_eq_none (by omega)]
  rfl
theorem foldGo_le : ∀ (w : List Instr) (i : Nat) (l : FL) (b : Nat × Nat × Nat), 1 ≤ b.1 → b.1 ≤ i + w.length → 1 ≤ (foldGo w i l b).1 ∧ (foldGo w i l b).1 ≤ i + w.length
  | [], i, l, b, h1, hb => ⟨h1, hb⟩
  | x :: r, i, l, b, h1, hb => by
    rw [foldGo]; dsimp only
    rw [List.length_cons] at hb ⊢
    split
    · exact ⟨h1, hb⟩
    · have : ∀ (b' : Nat × Nat × Nat), 1 ≤ b'.1 → b'.1 ≤ i + (r.length + 1) → 1 ≤ (if (takeF l x).1 = 0 then foldGo r (i + 1) (takeF l x).2 b' else b').1 ∧ (if (takeF l x).1 = 0 then foldGo r (i + 1) (takeF l x).2 b' else b').1 ≤ i + (r.length + 1) := by
        intro b' h1' hb'
        split
        · have := foldGo_le r (i + 1) (takeF l x).2 b' h1' (by omega)
          omega
        · exact ⟨h1', hb'⟩
      apply this
      · repeat' split
        all_goals first | exact h1 | (dsimp only; omega)
      · repeat' split
        all_goals first | exact hb | (dsimp only; omega)
theorem foldF_le {w : List Instr} {p : Nat × Nat × Nat} (h : foldF w = .ok p) : p.1 ≤ w.length := by
  cases w with
  | nil => simp [foldF] at h
  | cons x r =>
    unfold foldF at h
    dsimp only at h
    split at h
    · simp only [Except.ok.injEq] at h
      have := (foldGo_le (x :: r) 0 FL.nil (1, 1, 0) (by omega) (by simp)).2
      rw [h] at this
      omega
    · cases h
theorem foldedF_le (k : Nat) (w : List Instr) : (foldedF k w).len ≤ w.length := by
  unfold foldedF
  split
  · rename_i p hp
    split
    · exact foldF_le hp
    · simp [Shp.none]
  · simp [Shp.none]
theorem behindGo_le {is : Nat → Bool} {o b : Bool} {w : List Instr} (h0 : is 0 = false) : ∀ n, (behindGo is o b w n).len ≤ w.length
  | 0 => by simp [behindGo, Shp.none]
  | n + 1 => by
    rw [behindGo]
    split
    · rename_i h
      have := opF_lt (w := w) (n := n + 1) (by intro h1; rw [h1, h0] at h; cases h.2)
      show n + 2 ≤ _
      omega
    · exact behindGo_le h0 n
theorem localF_le {ld : Bool} {is : Nat → Bool} {o b : Bool} {w : List Instr} (h0 : is 0 = false) : (localF ld is o b w).len ≤ w.length := by
  have key : ∀ n, is (opF w n).op = true → n < w.length := by
    intro n h
    refine opF_lt fun h1 => ?_
    rw [h1, h0] at h; cases h
  cases ld with
  | true =>
    show (if (opF w 0).op = 9 ∧ is (opF w 2).op = true ∧ (true = true → (opF w 1).op = 31) then keepF o b ⟨3, 0, (opF w 0).arg, 0⟩ (opF w 2) else Shp.none).len ≤ _
    by_cases h : (opF w 0).op = 9 ∧ is (opF w 2).op = true ∧ (true = true → (opF w 1).op = 31)
    · have := key 2 h.2.1
      rw [if_pos h]
      show 3 ≤ _
      omega
    · rw [if_neg h]; exact Nat.zero_le _
  | false =>
    show (if (opF w 0).op = 9 ∧ is (opF w 1).op = true ∧ (false = true → (opF w 1).op = 31) then keepF o b ⟨2, 0, (opF w 0).arg, 0⟩ (opF w 1) else Shp.none).len ≤ _
    by_cases h : (opF w 0).op = 9 ∧ is (opF w 1).op = true ∧ (false = true → (opF w 1).op = 31)
    · have := key 1 h.2.1
      rw [if_pos h]
      show 2 ≤ _
      omega
    · rw [if_neg h]; exact Nat.zero_le _
theorem bumpGo_le {w : List Instr} : ∀ n, (bumpGo w n).len ≤ w.length
  | 0 => by simp [bumpGo, Shp.none]
  | n + 1 => by
    rw [bumpGo]
    split
    · rename_i h
      have := opF_lt (w := w) (n := n + 5) (by rw [h.2.2]; omega)
      show n + 6 ≤ _
      omega
    · exact bumpGo_le n
theorem fitsF_le (w : List Instr) (k : Nat) : (fitsF w k).len ≤ w.length := by
  have hb : binF 0 = false := by simp [binF, isOp]
  unfold fitsF
  split
  · unfold oneS
    split
    · simp [Shp.none]
    · rename_i h; have := opF_lt h; dsimp only; omega
  · exact foldedF_le _ _
  · exact foldedF_le _ _
  · exact foldedF_le _ _
  · exact behindGo_le hb _
  · exact behindGo_le rfl _
  · exact behindGo_le rfl _
  · exact behindGo_le rfl _
  · exact behindGo_le rfl _
  · exact behindGo_le rfl _
  · exact localF_le rfl
  · exact localF_le rfl
  · exact localF_le hb
  · exact localF_le rfl
  · unfold bumpF
    split
    · exact bumpGo_le _
    · simp [Shp.none]
  · simp [Shp.none]
theorem longGo_le (w : List Instr) : ∀ (n k : Nat) (b : Nat × Shp), b.2.len ≤ w.length → b.2.len ≤ (longGo w n k b).2.len ∧ (longGo w n k b).2.len ≤ w.length
  | 0, k, b, h => ⟨Nat.le_refl _, h⟩
  | n + 1, k, b, h => by
    rw [longGo]
    by_cases h1 : b.2.len < (fitsF w k).len
    · rw [if_pos h1]
      have := longGo_le w n (k + 1) (k, fitsF w k) (fitsF_le w k)
      exact ⟨by have := this.1; dsimp only at this; omega, this.2⟩
    · rw [if_neg h1]; exact longGo_le w n (k + 1) b h
theorem longF_le {w : List Instr} {p : Nat × Shp} (h : longF w = .ok p) : 1 ≤ p.2.len ∧ p.2.len ≤ w.length := by
  cases w with
  | nil => simp [longF] at h
  | cons x r =>
    unfold longF at h
    dsimp only at h
    split at h
    · rename_i hx
      simp only [Except.ok.injEq] at h
      rw [← h]
      have h1 := fits_one (w := x :: r) rfl hx
      have e : longGo (x :: r) 15 1 (0, Shp.none) = longGo (x :: r) 14 2 (1, fitsF (x :: r) 1) := by
        rw [longGo, if_pos (by rw [h1]; simp [Shp.none])]
      have := longGo_le (x :: r) 14 2 (1, fitsF (x :: r) 1) (fitsF_le _ _)
      rw [e]
      exact ⟨by have := this.1; dsimp only at this; omega, this.2⟩
    · cases h
theorem longF_err {c : List Instr} {a e x : Nat} (ha : a < e) (he : e ≤ c.length) (h : longF (win c a e) = .error x) : insBad c[a] ≠ 0 ∧ x = insBad c[a] := by
  rw [win_cons ha he] at h
  unfold longF at h
  dsimp only at h
  split at h
  · cases h
  · rename_i hx; simp only [Except.error.injEq] at h; exact ⟨hx, h.symm⟩
/-- Where a row ends, and how many things it has. -/
def rowGo (c : List Instr) (e : Nat) : Nat → Nat → Nat → Nat × Nat
  | 0, a, n => (a, n)
  | m + 1, a, n => if a < e then (match longF (win c a e) with | .ok p => rowGo c e m (a + p.2.len) (n + 1) | .error _ => (a, n)) else (a, n)
theorem rowGo_ok {c : List Instr} {e : Nat} (he : e ≤ c.length) : ∀ (m a n : Nat), a ≤ e → e - a ≤ m → a ≤ (rowGo c e m a n).1 ∧ (rowGo c e m a n).1 ≤ e ∧ (rowGo c e m a n).2 + a ≤ (rowGo c e m a n).1 + n ∧ ((rowGo c e m a n).1 = e ∨ ∃ h : (rowGo c e m a n).1 < c.length, insBad c[(rowGo c e m a n).1] ≠ 0)
  | 0, a, n, h1, h2 => by
    have : a = e := by omega
    subst this
    exact ⟨Nat.le_refl _, Nat.le_refl _, by simp only [rowGo]; omega, .inl rfl⟩
  | m + 1, a, n, h1, h2 => by
    by_cases h3 : a < e
    · cases hr : longF (win c a e) with
      | ok p =>
        have hp := longF_le hr
        rw [win_length he] at hp
        have e1 : rowGo c e (m + 1) a n = rowGo c e m (a + p.2.len) (n + 1) := by rw [rowGo, if_pos h3, hr]
        have ih := rowGo_ok he m (a + p.2.len) (n + 1) (by omega) (by omega)
        simp only [e1]
        exact ⟨by omega, ih.2.1, by omega, ih.2.2.2⟩
      | error x =>
        have e1 : rowGo c e (m + 1) a n = (a, n) := by rw [rowGo, if_pos h3, hr]
        simp only [e1]
        exact ⟨Nat.le_refl _, h1, by omega, .inr ⟨by omega, (longF_err h3 he hr).1⟩⟩
    · have e1 : rowGo c e (m + 1) a n = (a, n) := by rw [rowGo, if_neg h3]
      simp only [e1]
      exact ⟨Nat.le_refl _, h1, by omega, .inl (by omega)⟩
theorem rowGo_more {c : List Instr} {e : Nat} (he : e ≤ c.length) : ∀ (m a n : Nat), e - a ≤ m → rowGo c e (m + 1) a n = rowGo c e m a n
  | 0, a, n, h => by show (if a < e then _ else _) = _; rw [if_neg (by omega)]; rfl
  | m + 1, a, n, h => by
    rw [rowGo]
    conv => rhs; rw [rowGo]
    by_cases h3 : a < e
    · rw [if_pos h3, if_pos h3]
      cases hr : longF (win c a e) with
      | ok p =>
        have hp := longF_le hr
        exact rowGo_more he m (a + p.2.len) (n + 1) (by omega)
      | error x => rfl
    · rw [if_neg h3, if_neg h3]
theorem rowGo_eq {c : List Instr} {e : Nat} (he : e ≤ c.length) (a n : Nat) : ∀ (d : Nat), rowGo c e (e - a + d) a n = rowGo c e (e - a) a n
  | 0 => rfl
  | d + 1 => by rw [← rowGo_eq he a n d]; exact rowGo_more he (e - a + d) a n (by omega)
section
variable {c : List Instr} {a e : Nat} (LB : Blk)
/-- The memory of FuseCovers within its range over a row. -/
def covH (c : List Instr) (a e : Nat) (LB : Blk) (next n : Nat) : List Blk :=
  [.row [.int .u32 e] 0 1 true true, .row [.bool false] 0 1 true true, .row [.int .u32 a] 0 1 true true, .row [.int .u32 e] 0 1 true true, .row [] 0 2 true true, .row (cat eInstr c) 0 2 true true,
    .row [.sref 0 5 0 c.length 0 (2, false)] 0 1 false false, .row [.int .u32 next] 0 1 true true, .row [ii n] 0 1 true true, LB]
theorem cov2 (next n : Nat) : (covH c a e LB next n)[2]? = some (.row [.int .u32 a] 0 1 true true) := rfl
theorem cov3 (next n : Nat) : (covH c a e LB next n)[3]? = some (.row [.int .u32 e] 0 1 true true) := rfl
theorem cov5 (next n : Nat) : (covH c a e LB next n)[5]? = some (.row (cat eInstr c) 0 2 true true) := rfl
theorem cov6 (next n : Nat) : (covH c a e LB next n)[6]? = some (.row [.sref 0 5 0 c.length 0 (2, false)] 0 1 false false) := rfl
set_option maxHeartbeats 1000000 in
theorem Row1 (L : Lies c a e) (step : ∀ x (next n : Nat) (p : Nat × Shp), a ≤ next → n + a ≤ next → 1 ≤ p.2.len → next + p.2.len ≤ e → roundV (om E) 1 9 [fusedV next p.1 p.2] [x, covH c a e LB next n] = some (bb true, [x, covH c a e LB (next + p.2.len) (n + 1)])) :
    callV E (om E) 29 [.yield 0 9, .pref 0 2 0 0, .pref 0 3 0 0, .pref 0 6 0 0] [covH c a e LB a 0] = some (.tuple [], [covH c a e LB (rowGo c e (e - a) a 0).1 (rowGo c e (e - a) a 0).2]) := by
  obtain ⟨ha, he, hea, hc⟩ := L
  apply he_29
  generalize hR : rowGo c e (e - a) a 0 = R
  simp (disch := omega) [if_pos, if_neg, iteK_pos, iteK_neg, Try.f29, V.upIf, cov2]
  refine loop_use (dyn := []) (fun (s : Nat × Nat) => [.yield 1 9, .pref 1 2 0 0, .pref 1 3 0 0, .pref 1 6 0 0, xx, .int .u32 s.1, xx, xx, .int .u32 a] ++ pois 22)
    (fun s => [[], covH c a e LB s.1 s.2]) (fun s => a ≤ s.1 ∧ s.1 ≤ e ∧ s.2 + a ≤ s.1 ∧ R = rowGo c e (e - s.1) s.1 s.2) (fun s => e - s.1) hint_29_0 (by kernel_rfl) ?_ (a, 0) ⟨by simp, by dsimp only; omega, by simp, hR.symm⟩ (by simp)
  clear hR
  rintro ⟨next, n⟩ ⟨h1, h2, h3, h4⟩ IH
  dsimp only at h1 h2 h3 h4 ⊢
  rw [lpB_eq]
  by_cases hlt : next < e
  · have hl := fun lent => Longest lent (c := c) (a := next) (e := e) ⟨hlt, he, hea, hc⟩
    rw [show e - next = (e - next - 1) + 1 by omega, rowGo, if_pos hlt] at h4
    cases hr : longF (win c next e) with
    | ok p =>
      rw [hr] at hl h4
      have hp := longF_le hr
      rw [win_length he] at hp
      have hst := fun x => step x next n p h1 h3 hp.1 (by omega)
      simp (disch := omega) [if_pos, if_neg, iteK_pos, iteK_neg, V.upIf, hlt, cov2, cov3, cov5, cov6, hl, hst]
      refine IH (next + p.2.len, n + 1) _ _ ⟨by dsimp only; omega, by dsimp only; omega, by dsimp only; omega, ?_⟩ (by dsimp only; omega) (by simp)
      dsimp only at h4 ⊢
      rw [h4, show e - next - 1 = e - (next + p.2.len) + (p.2.len - 1) by omega]
      exact rowGo_eq he _ _ _
    | error x =>
      rw [hr] at hl h4
      have hx := (longF_err hlt he hr)
      have hx0 : ¬ (x : Int) = 0 := by omega
      clear IH
      simp (disch := omega) [if_pos, if_neg, iteK_pos, iteK_neg, V.upIf, hlt, cov2, cov3, cov5, cov6, hl, hx0]
      rw [h4]
  · have he0 : next = e := by omega
    subst he0
    rw [Nat.sub_self, rowGo] at h4
    clear IH
    rw [h4]
    simp (disch := omega) [if_pos, if_neg, iteK_pos, iteK_neg, V.upIf, cov2, cov3, cov5, cov6]
theorem Row1' (L : Lies c a e) (step : ∀ x (next n : Nat) (p : Nat × Shp), a ≤ next → n + a ≤ next → 1 ≤ p.2.len → next + p.2.len ≤ e → roundV (om E) 1 9 [fusedV next p.1 p.2] [x, covH c a e LB next n] = some (bb true, [x, covH c a e LB (next + p.2.len) (n + 1)])) :
    callV E (om E) 29 [.yield 0 9, .pref 0 2 0 0, .pref 0 3 0 0, .pref 0 6 0 0] [[.row [.int .u32 e] 0 1 true true, .row [.bool false] 0 1 true true, .row [.int .u32 a] 0 1 true true, .row [.int .u32 e] 0 1 true true, .row [] 0 2 true true, .row (cat eInstr c) 0 2 true true,
    .row [.sref 0 5 0 c.length 0 (2, false)] 0 1 false false, .row [.int .u32 a] 0 1 true true, .row [ii 0] 0 1 true true, LB]] = some (.tuple [], [covH c a e LB (rowGo c e (e - a) a 0).1 (rowGo c e (e - a) a 0).2]) := Row1 LB L step
end
theorem Row1_none {c : List Instr} {a e : Nat} (b0 b1 : Blk) (LB : Blk) (ha : a < 4294967296) (he : e < 4294967296) (hl : c.length < 2 ^ 63) (h : ¬ (a < e ∧ e ≤ c.length)) :
    callV E (om E) 29 [.yield 0 7, .pref 0 2 0 0, .pref 0 3 0 0, .pref 0 6 0 0] [[b0, b1, .row [.int .u32 a] 0 1 true true, .row [.int .u32 e] 0 1 true true, .row [] 0 2 true true, .row (cat eInstr c) 0 2 true true, .row [.sref 0 5 0 c.length 0 (2, false)] 0 1 false false, LB]] =
      some (.tuple [], [[b0, b1, .row [.int .u32 a] 0 1 true true, .row [.int .u32 e] 0 1 true true, .row [] 0 2 true true, .row (cat eInstr c) 0 2 true true, .row [.sref 0 5 0 c.length 0 (2, false)] 0 1 false false, LB]]) := by
  have hl := fun lent => LongestBad lent c a e ha he hl h
  apply he_29
  simp (disch := omega) [if_pos, if_neg, iteK_pos, iteK_neg, Try.f29, V.upIf]
  apply loop_next (dyn := []) hint_29_0 (by kernel_rfl)
  simp (disch := omega) [if_pos, if_neg, iteK_pos, iteK_neg]
  rw [lpB_eq]
  by_cases h1 : a < e
  · simp (disch := omega) [if_pos, if_neg, iteK_pos, iteK_neg, V.upIf, h1, hl]
  · simp (disch := omega) [if_pos, if_neg, iteK_pos, iteK_neg, V.upIf, h1]
theorem Row1_none0 {a e : Nat} (b0 b1 : Blk) (LB : Blk) (ha : a < 4294967296) (he : e < 4294967296) :
    callV E (om E) 29 [.yield 0 5, .pref 0 2 0 0, .pref 0 3 0 0, .pref 0 4 0 0] [[b0, b1, .row [.int .u32 a] 0 1 true true, .row [.int .u32 e] 0 1 true true, .row [.scon [] 0 0 false] 0 1 true false, LB]] =
      some (.tuple [], [[b0, b1, .row [.int .u32 a] 0 1 true true, .row [.int .u32 e] 0 1 true true, .row [.scon [] 0 0 false] 0 1 true false, LB]]) := by
  have hl : ∀ lent, pureV E (om E) 8 lent [.scon [] 0 0 false, .int .u32 a, .int .u32 e] = some (longV a (.error 2)) := fun lent => LongestBad lent [] a e ha he (by simp) (by simp; omega)
  apply he_29
  simp (disch := omega) [if_pos, if_neg, iteK_pos, iteK_neg, Try.f29, V.upIf]
  apply loop_next (dyn := []) hint_29_0 (by kernel_rfl)
  simp (disch := omega) [if_pos, if_neg, iteK_pos, iteK_neg]
  rw [lpB_eq]
  by_cases h1 : a < e
  · simp (disch := omega) [if_pos, if_neg, iteK_pos, iteK_neg, V.upIf, h1, hl]
  · simp (disch := omega) [if_pos, if_neg, iteK_pos, iteK_neg, V.upIf, h1]
set_option maxHeartbeats 1000000 in
theorem FuseCovers (lent) (c : List Instr) (a e : Nat) (ha : a < 4294967296) (he : e < 4294967296) (hc : c.length ≤ 17592186044416) :
    pureV E (om E) 6 lent [lst eInstr c, .int .u32 a, .int .u32 e] = some (bb true) := by
  apply pu_6
  by_cases hne : c = []
  · subst hne
    by_cases h1 : a < e
    · simp (disch := omega) [if_pos, if_neg, iteK_pos, iteK_neg, Try.f6, awake, eql_nilfunc, Row_at0, h1]
      refine range_of hint_6_0 ?_
      simp (disch := omega) [if_pos, if_neg, iteK_pos, iteK_neg]
      rw [Row1_none0 _ _ _ ha he]
      simp (disch := omega) [if_pos, if_neg, iteK_pos, iteK_neg]
    · simp (disch := omega) [if_pos, if_neg, iteK_pos, iteK_neg, Try.f6, awake, eql_nilfunc, Row_at0, h1]
      refine range_of hint_6_0 ?_
      simp (disch := omega) [if_pos, if_neg, iteK_pos, iteK_neg]
      rw [Row1_none0 _ _ _ ha he]
      simp (disch := omega) [if_pos, if_neg, iteK_pos, iteK_neg]
  · by_cases h1 : a < e ∧ e ≤ c.length
    · obtain ⟨h1, h2⟩ := h1
      simp (disch := omega) [if_pos, if_neg, iteK_pos, iteK_neg, Try.f6, awake, eql_nilfunc, Row_at, h1, hne, h2]
      refine range_of hint_6_1 ?_
      simp (disch := omega) [if_pos, if_neg, iteK_pos, iteK_neg]
      rw [Row1' (c := c) (a := a) (e := e) _ ⟨h1, h2, he, by omega⟩ ?step]
      case step =>
        intro x next n p g1 g2 g3 g4
        refine round_eq (dyn := []) rfl rfl (by simp; rfl) (by kernel_rfl) (by kernel_rfl) ?_
        unfold covH
        simp (disch := omega) [if_pos, if_neg, iteK_pos, iteK_neg]
      have hR := rowGo_ok h2 (e - a) a 0 (by omega) (by omega)
      generalize rowGo c e (e - a) a 0 = R at hR ⊢
      unfold covH
      simp (disch := omega) [if_pos, if_neg, iteK_pos, iteK_neg]
      obtain ⟨R1, R2⟩ := R
      dsimp only at hR ⊢
      obtain ⟨k1, k2, k3, k4⟩ := hR
      by_cases h3 : R1 < e
      · obtain ⟨h4, h5⟩ : ∃ h : R1 < c.length, insBad c[R1] ≠ 0 := by
          rcases k4 with k4 | k4
          · omega
          · exact k4
        simp (disch := omega) [if_pos, if_neg, iteK_pos, iteK_neg, h3, IsaCheck, h5]
        omega
      · simp (disch := omega) [if_pos, if_neg, iteK_pos, iteK_neg, h3]
        omega
    · by_cases h2 : a < e
      · have h3 : c.length < e := by omega
        simp (disch := omega) [if_pos, if_neg, iteK_pos, iteK_neg, Try.f6, awake, eql_nilfunc, Row_at, h2, hne, h3]
        refine range_of hint_6_0 ?_
        simp (disch := omega) [if_pos, if_neg, iteK_pos, iteK_neg]
        rw [Row1_none (c := c) _ _ _ ha he (by omega) h1]
        simp (disch := omega) [if_pos, if_neg, iteK_pos, iteK_neg]
      · simp (disch := omega) [if_pos, if_neg, iteK_pos, iteK_neg, Try.f6, awake, eql_nilfunc, Row_at, h2, hne]
        refine range_of hint_6_0 ?_
        simp (disch := omega) [if_pos, if_neg, iteK_pos, iteK_neg]
        rw [Row1_none (c := c) _ _ _ ha he (by omega) h1]
        simp (disch := omega) [if_pos, if_neg, iteK_pos, iteK_neg]
end Go.Proofs.Ytjmipgfaghjgmaa
end
