/-
  flow.Depths and flow.Next; the laws' small functions.
-/
import Derived.Test.YtpfodignhibjgaaNk
section
namespace Go.Proofs.Ytpfodignhibjgaa
open Go Go.Sim
set_option maxRecDepth 100000
set_option maxHeartbeats 0
set_option linter.unusedSimpArgs false
set_option linter.unusedVariables false

theorem walk_e (code s ts) : ∀ f m ds need, (walkF code s ts f m ds need).e = 0 ∨ ((walkF code s ts f m ds need).e = 140 ∨ (walkF code s ts f m ds need).e = 141 ∨ (walkF code s ts f m ds need).e = 142 ∨ (walkF code s ts f m ds need).e = 143)
  | 0, m, ds, need => .inl rfl
  | f + 1, m, ds, need => by
    rw [walkF]
    split
    · exact .inl rfl
    · split
      · exact .inr (.inl rfl)
      · split
        · exact .inr (.inr (.inl rfl))
        · split
          · exact .inr (.inr (.inr (.inr rfl)))
          · split
            · exact walk_e code s ts f _ _ _
            · exact .inr (.inr (.inr (.inl rfl)))
/-- The targets of code's jumps. -/
def tgts (code : List Instr) (jumps : List Nat) : List (List Nat) := tgtN (cutF code) jumps jumps.length
theorem next_lt {code : List Instr} {jumps : List Nat} (h : FindOk code jumps) : ∀ i, i < code.length → ∀ x ∈ nextF code (cutF code) (tgts code jumps) i, x < code.length ∧ ofI (cutF code) x = ofI (cutF code) i := fun i hi x hx => by
  have := next_in h hi x hx
  exact ⟨this.1, this.2.1⟩
theorem Depths_body {code : List Instr} {jumps : List Nat} (hf : CodeFits code jumps) (h : FindOk code jumps) (m : Nat) (hm : m ≤ (cutF code).1.length) (hok : ∀ k, k < m → (walkN code (cutF code) (tgts code jumps) k).e = 0) (hbad : m < (cutF code).1.length → (walkN code (cutF code) (tgts code jumps) m).e ≠ 0) :
    bodyV E (om E) 7 [lst eInstr code, lst eW jumps] [[]] = some (depR code jumps (cutF code) (tgts code jumps) m) := by
  have hc : CutOk code code.length (cutF code) := cut_ok h.first code.length
  have hF := GFound_ok hf h
  have hl := h.enc.1
  have hs0 : 0 < (cutF code).1.length := cutN_pos h.first h.pos
  have hs1 : (cutF code).1.length ≤ code.length := (cutN_len code code.length).2
  have hlt := next_lt h
  have hD := GDepths_body code jumps (cutF code) (tgts code jumps) h.pos hl hs0 (by omega) hc.len (cutN_of h.first code.length) (tgtN_len _ _ _) (fun l hl => Nat.le_trans (tgtN_le _ _ _ l hl) hf.len) (fun i hi x hx => (hlt i hi x hx).1)
    (fun p hp => by
      obtain ⟨k, hk, rfl⟩ := List.getElem_of_mem hp
      have := hc.pr k hk
      unfold prOf at this
      rw [getD_lt hk] at this
      omega) m hm hok hbad
    (fun k hk => by
      have := ds_inv hc hlt k (by omega) (fun i hi => hok i (by omega))
      exact ⟨this.len, this.low⟩)
  apply bo_7
  have hG : graphV code jumps (cutF code) (tgtN (cutF code) jumps jumps.length) = graphV code jumps (cutF code) (tgts code jumps) := rfl
  rw [hG] at hF
  have hGc : V.canon (graphV code jumps (cutF code) (tgts code jumps)) = graphV code jumps (cutF code) (tgts code jumps) := by simp [canon_lsts]
  have hGf : V.flat (graphV code jumps (cutF code) (tgts code jumps)) = true := by simp
  unfold depR at hD ⊢
  generalize graphV code jumps (cutF code) (tgts code jumps) = G at *
  by_cases hmp : m < (cutF code).1.length
  · rw [if_pos hmp] at hD ⊢
    simp (disch := omega) [if_pos, if_neg, iteK_pos, iteK_neg, Try.f7, hF, hD, hGc, hGf, call_20]
  · rw [if_neg hmp] at hD ⊢
    simp (disch := omega) [if_pos, if_neg, iteK_pos, iteK_neg, Try.f7, hF, hD, hGc, hGf, call_20]
/-- Code whose depths Depths tells. -/
def AllOk (code : List Instr) (jumps : List Nat) : Prop := ∀ i, i < (cutF code).1.length → (walkN code (cutF code) (tgts code jumps) i).e = 0
noncomputable def dsF (code : List Instr) (jumps : List Nat) : List Int := dsN code (cutF code) (tgts code jumps) (cutF code).1.length
noncomputable def needF (code : List Instr) (jumps : List Nat) : List Int := needN code (cutF code) (tgts code jumps) (cutF code).1.length
theorem Depths_at {code : List Instr} {jumps : List Nat} (hf : CodeFits code jumps) (h : FindOk code jumps) (ha : AllOk code jumps) {a1 a2 : V} {B : List Blk} {r : Heap} (hv : viewArgs (B :: r) [a1, a2] = some [lst eInstr code, lst eW jumps]) :
    callV E (om E) 7 [a1, a2] (B :: r) = some (.tuple [.sref 0 (B.length + 6) 0 code.length 0 (1, true), .sref 0 (B.length + 9) 0 (cutF code).1.length (cutF code).1.length (1, false), ii 0, ii 0],
      (B ++ depO (graphV code jumps (cutF code) (tgts code jumps)) code.length (dsF code jumps) (needF code jumps) B.length) :: r) := by
  have hb := Depths_body hf h (cutF code).1.length (Nat.le_refl _) ha (by omega)
  unfold depR at hb
  rw [if_neg (by omega)] at hb
  rw [call_7, hv]
  have hd : dsF code jumps = dsN code (cutF code) (tgts code jumps) (cutF code).1.length := rfl
  have hn : needF code jumps = needN code (cutF code) (tgts code jumps) (cutF code).1.length := rfl
  rw [hd, hn]
  simp (disch := omega) [if_pos, if_neg, iteK_pos, iteK_neg, hb]
theorem Depths_fail {code : List Instr} {jumps : List Nat} (hf : CodeFits code jumps) (h : FindOk code jumps) (ha : ¬ AllOk code jumps) : ∃ a e : Int, (e = 140 ∨ e = 141 ∨ e = 142 ∨ e = 143) ∧ ∀ {a1 a2 : V} {B : List Blk} {r : Heap}, viewArgs (B :: r) [a1, a2] = some [lst eInstr code, lst eW jumps] →
    ∃ X, callV E (om E) 7 [a1, a2] (B :: r) = some (.tuple [.nilslice, .nilslice, ii a, ii e], X) := by
  obtain ⟨m, m1, m2, m3⟩ := first_bad (fun i => (walkN code (cutF code) (tgts code jumps) i).e ≠ 0) (cutF code).1.length
  have hmp : m < (cutF code).1.length := by
    rcases Nat.lt_or_ge m (cutF code).1.length with h | h
    · exact h
    · exact absurd (fun i hi => Classical.byContradiction (m2 i (by omega))) ha
  have hb := Depths_body hf h m m1 (fun k hk => Classical.byContradiction (m2 k hk)) m3
  unfold depR at hb
  rw [if_pos hmp] at hb
  have he := walk_e code (cutF code) (tgts code jumps) code.length ⟨[(((cutF code).1.getD m default).b : Int)], [], 0, true⟩ ((dsN code (cutF code) (tgts code jumps) m).set ((cutF code).1.getD m default).b 0) 0
  have he' := m3 hmp
  refine ⟨(walkN code (cutF code) (tgts code jumps) m).at_, (walkN code (cutF code) (tgts code jumps) m).e, ?_, ?_⟩
  · unfold walkN at he' ⊢; omega
  · intro a1 a2 B r hv
    rw [call_7, hv]
    simp (disch := omega) [if_pos, if_neg, iteK_pos, iteK_neg, hb]
theorem Depths_bad {code : List Instr} {jumps : List Nat} {at_ e : Nat} (he : e ≠ 0) (hF : ∀ (lent : Bool) (nm : V), (nm = .nilslice ∨ nm = .scon [] 0 0 false) → pureV E (om E) 9 lent [lst eInstr code, lst eW jumps, nm] = some (.tuple [.nilptr, ii at_, ii e]))
    {a1 a2 : V} {B : List Blk} {r : Heap} (hv : viewArgs (B :: r) [a1, a2] = some [lst eInstr code, lst eW jumps]) : callV E (om E) 7 [a1, a2] (B :: r) = some (.tuple [.nilslice, .nilslice, ii at_, ii e], B :: r) := by
  have hG := GFound_bad he hF
  have hb : bodyV E (om E) 7 [lst eInstr code, lst eW jumps] [[]] = some (.tuple [.nilslice, .nilslice, ii at_, ii e], [[]]) := by
    apply bo_7
    simp (disch := omega) [if_pos, if_neg, iteK_pos, iteK_neg, Try.f7, hG, he]
  rw [call_7, hv]
  simp (disch := omega) [if_pos, if_neg, iteK_pos, iteK_neg, hb]
theorem Next_at {code : List Instr} {jumps : List Nat} (hf : CodeFits code jumps) (h : FindOk code jumps) (i : Nat) (hi : i < code.length) :
    pureV E (om E) 28 false [lst eInstr code, lst eW jumps, .int .u32 i] = some (.tuple [lst eW (nextF code (cutF code) (tgts code jumps) i), ii 0]) := by
  have hc : CutOk code code.length (cutF code) := cut_ok h.first code.length
  have hF := GFound_ok hf h
  have hl := h.enc.1
  have hN := GNext code jumps (cutF code) (tgts code jumps) i hi hl hc.len (cutN_of h.first code.length) (tgtN_len _ _ _) (fun l hl => Nat.le_trans (tgtN_le _ _ _ l hl) hf.len)
  apply pu_28
  have hG : graphV code jumps (cutF code) (tgtN (cutF code) jumps jumps.length) = graphV code jumps (cutF code) (tgts code jumps) := rfl
  rw [hG] at hF
  generalize hGV : graphV code jumps (cutF code) (tgts code jumps) = G at *
  have hGc : V.canon G = G := by rw [← hGV]; simp [canon_lsts]
  have hGf : V.flat G = true := by rw [← hGV]; simp
  simp (disch := omega) [if_pos, if_neg, iteK_pos, iteK_neg, Try.f28, hF, hN, hGc, hGf, hi]
theorem SameInts (lent) (l : List Int) (hl : l.length ≤ 1099511627776) : pureV E (om E) 10 lent [lst eI l, lst eI l] = some (bb true) := by
  apply pu_10
  simp (disch := omega) [if_pos, if_neg, iteK_pos, iteK_neg, Try.f10]
  refine loop_chg (dyn := []) (fun n : Nat => [(5, ii n)]) (fun _ => []) (fun _ => []) (fun n => n ≤ l.length) (fun n => l.length - n) hint_10_0 (by kernel_rfl) ?_ 0 (by simp) (by simp)
  intro n hn IH
  rw [lpB_eq]
  by_cases h : n < l.length
  · simp (disch := omega) [if_pos, if_neg, iteK_pos, iteK_neg, h]
    exact IH (n + 1) _ _ (by omega) (by omega) (by simp)
  · simp (disch := omega) [if_pos, if_neg, iteK_pos, iteK_neg, h]
/-- What Pick picks. -/
def pickF (x : Int) (n : Nat) : Nat := (x % (n : Int)).toNat
theorem pickF_lt (x : Int) {n : Nat} (h : 0 < n) : pickF x n < n := by
  have h1 := Int.emod_nonneg x (show (n : Int) ≠ 0 by omega)
  have h2 := Int.emod_lt_of_pos x (show (0 : Int) < n by omega)
  unfold pickF; omega
theorem tmod_cases (x : Int) {n : Nat} (h : 0 < n) : (x.tmod n < 0 ∧ x.tmod n + n = pickF x n ∧ -n < x.tmod n) ∨ (0 ≤ x.tmod n ∧ x.tmod n = pickF x n) := by
  have h1 := Int.emod_nonneg x (show (n : Int) ≠ 0 by omega)
  have h2 := Int.emod_lt_of_pos x (show (0 : Int) < n by omega)
  have hp : (pickF x n : Int) = x % n := by unfold pickF; omega
  rw [hp, Int.tmod_eq_emod]
  split
  · omega
  · have : ((n : Int).natAbs : Int) = n := by omega
    omega
theorem KPick (lent) (x : Int) (n : Nat) (h : 0 < n) (hn : n ≤ 16384) : pureV E (om E) 8 lent [ii x, ii n] = some (ii (pickF x n)) := by
  apply pu_8
  rcases tmod_cases x h with ⟨h1, h2, h3⟩ | ⟨h1, h2⟩
  · simp (disch := omega) [if_pos, if_neg, iteK_pos, iteK_neg, Try.f8, h1]
    exact h2
  · have h3 : ¬ x.tmod n < 0 := by omega
    simp (disch := omega) [if_pos, if_neg, iteK_pos, iteK_neg, Try.f8, h3]
    exact h2
abbrev fixedL : List Instr := [⟨3, 4⟩, ⟨8, 7⟩, ⟨4, 4⟩]
theorem fixedC : pureV E (om E) 18 false [] = some (lst eInstr fixedL) := by
  apply pu_18
  simp (disch := omega) [if_pos, if_neg, iteK_pos, iteK_neg, Try.f18]
  rfl
theorem fixed_ok : FindOk fixedL [] := by
  refine ⟨⟨by decide, by decide⟩, by decide, by decide, ?_, by simp⟩
  intro i hi
  have : i = 0 ∨ i = 1 ∨ i = 2 := by simp [fixedL] at hi; omega
  rcases this with rfl | rfl | rfl <;> decide
theorem fixed_fits : CodeFits fixedL [] := ⟨by
  intro i hi
  simp only [fixedL, List.mem_cons, List.not_mem_nil, or_false] at hi
  rcases hi with rfl | rfl | rfl <;> simp [insFits], by simp, by simp⟩
theorem fixed_walk : (walkN fixedL (cutF fixedL) (tgts fixedL []) 0).e = 0 ∧ (walkN fixedL (cutF fixedL) (tgts fixedL []) 0).need = 1 ∧ (walkN fixedL (cutF fixedL) (tgts fixedL []) 0).ds = [0, 0, 1] := by
  refine ⟨by rfl, by rfl, by rfl⟩
theorem fixed_all : AllOk fixedL [] := by
  intro i hi
  have hn : (cutF fixedL).1.length = 1 := by rfl
  rw [hn] at hi
  obtain rfl : i = 0 := by omega
  exact fixed_walk.1
theorem Lives : pureV E (om E) 6 false [] = some (bb true) := by
  have hn : (cutF fixedL).1.length = 1 := by rfl
  have hD := fun (B : List Blk) (r : Heap) (hv : viewArgs (B :: r) [lst eInstr fixedL, .nilslice] = some [lst eInstr fixedL, lst eW []]) => Depths_at fixed_fits fixed_ok fixed_all hv
  have e1 : dsF fixedL [] = [0, 0, 1] := fixed_walk.2.2
  have e2 : needF fixedL [] = [1] := by
    show [(walkN fixedL (cutF fixedL) (tgts fixedL []) 0).need] = [1]
    rw [fixed_walk.2.1]
  rw [e1, e2, hn] at hD
  generalize graphV fixedL [] (cutF fixedL) (tgts fixedL []) = G at hD
  apply pu_6
  have s1 : ∀ lent, pureV E (om E) 10 lent [.scon (V.canonL (cutCells (cat eI [0, 0, 1]) 0 3 1)) 0 3 false, .scon (V.canonL (cutCells [ii 0, ii 0, ii 1] 0 3 1)) 0 3 false] = some (bb true) := fun lent => SameInts lent [0, 0, 1] (by simp)
  have s2 : ∀ lent, pureV E (om E) 10 lent [.scon (V.canonL (cutCells (cat eI [1]) 0 1 1)) 0 1 false, .scon (V.canonL (cutCells [ii 1] 0 1 1)) 0 1 false] = some (bb true) := fun lent => SameInts lent [1] (by simp)
  simp (disch := omega) [if_pos, if_neg, iteK_pos, iteK_neg, Try.f6, fixedC]
  rw [hD _ _ (by simp)]
  simp (disch := omega) [if_pos, if_neg, iteK_pos, iteK_neg, s1, s2]
end Go.Proofs.Ytpfodignhibjgaa
end
