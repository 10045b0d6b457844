/-
 verify.Take: what is refused.
-/
import Derived.Test.YtfplmcpkagpaiaaGreatDoorVa
set_option maxRecDepth 100000
set_option maxHeartbeats 0
set_option linter.unusedSimpArgs false
set_option linter.unusedVariables false
section
namespace Go.Proofs.YtfplmcpkagpaiaaGreatDoor
open Go Go.Sim
theorem Take_check (lent) (x : Img) (h1 : x.code.length < 2 ^ 63) (h2 : x.jumps.length < 2 ^ 63) (h3 : x.data.length < 2 ^ 63) (h4 : x.names.length < 2 ^ 63) (hc : checkP x ≠ 0) : pureV E (om E) 6 lent [imgV x] = some (.tuple [.nilptr, ii 0, ii (checkP x)]) := by
 have hC := fun lent => ImageCheck lent x h1 h2 h3 h4
 apply pu_6
 simp (disch := omega) [if_pos, if_neg, iteK_pos, iteK_neg, Tryz.f6, hC, hc]
theorem Take_find (lent) (x : Img) (hchk : checkP x = 0) {a e : Nat} (he : e ≠ 0) (hF : ∀ lent, pureV E (om E) 17 lent [lst eInstr x.code, ws x.jumps, lst eExport x.names] = some (.tuple [.nilptr, ii a, ii e])) : pureV E (om E) 6 lent [imgV x] = some (.tuple [.nilptr, ii a, ii e]) := by
 obtain ⟨c1, c2, c3, c4, c5, c6, c7⟩ := check_ok hchk
 have hC := fun lent => ImageCheck lent x (by omega) (by omega) (by omega) (by omega)
 simp only [hchk] at hC
 have e1 : x.code.length = 0 → lst eInstr x.code = .scon [] 0 0 false := fun h => by rw [List.length_eq_zero_iff.1 h]; rfl
 have e2 : x.jumps.length = 0 → ws x.jumps = .scon [] 0 0 false := fun h => by rw [List.length_eq_zero_iff.1 h]; rfl
 have e3 : x.data.length = 0 → bs x.data = .scon [] 0 0 false := fun h => by rw [List.length_eq_zero_iff.1 h]; rfl
 have e4 : x.names.length = 0 → lst eExport x.names = .scon [] 0 0 false := fun h => by rw [List.length_eq_zero_iff.1 h]; rfl
 obtain ⟨R1, R2, hV⟩ := Copied1 x (by omega) (by omega) (by omega) (by omega) (.row [lst eInstr x.code, ws x.jumps, bs x.data, w32 x.zero.toNat, w32 x.stack.toNat, lst eExport x.names] 0 6 true false)
 apply pu_6
 by_cases d1 : x.code.length = 0 <;> by_cases d2 : x.jumps.length = 0 <;> by_cases d3 : x.data.length = 0 <;> by_cases d4 : x.names.length = 0 <;>
 (simp only [cv, cn, cr] at hV
  first | simp only [if_pos d1] at hV | simp only [if_neg d1] at hV
  first | simp only [if_pos d2] at hV | simp only [if_neg d2] at hV
  first | simp only [if_pos d3] at hV | simp only [if_neg d3] at hV
  first | simp only [if_pos d4] at hV | simp only [if_neg d4] at hV
  simp only [imgV] at hC hF hV ⊢
  try simp only [e1 d1] at hC hF hV ⊢
  try simp only [e2 d2] at hC hF hV ⊢
  try simp only [e3 d3] at hC hV ⊢
  try simp only [e4 d4] at hC hF hV ⊢
  simp (disch := omega) [if_pos, if_neg, iteK_pos, iteK_neg, Tryz.f6, hC, hV, hF, he])
theorem Take_flow (lent) (x : Img) (hchk : checkP x = 0) (hfi : Fl.FindOk (cF x) (jF x)) (hna : Fl.NamesAt (cF x) x.names) (m : Nat) (hm : m < (Fl.cutF (cF x)).1.length)
  (hok : ∀ k, k < m → (Fl.walkN (cF x) (Fl.cutF (cF x)) (Fl.tgts (cF x) (jF x)) k).e = 0) (hbad : (Fl.walkN (cF x) (Fl.cutF (cF x)) (Fl.tgts (cF x) (jF x)) m).e ≠ 0) :
  pureV E (om E) 6 lent [imgV x] = some (.tuple [.nilptr, ii (Fl.walkN (cF x) (Fl.cutF (cF x)) (Fl.tgts (cF x) (jF x)) m).at_, ii (Fl.walkN (cF x) (Fl.cutF (cF x)) (Fl.tgts (cF x) (jF x)) m).e]) := by
 obtain ⟨c1, c2, c3, c4, c5, c6, c7⟩ := check_ok hchk
 have hfit := fits_fl hchk
 have hC := fun lent => ImageCheck lent x (by omega) (by omega) (by omega) (by omega)
 simp only [hchk] at hC
 have e1 : x.code.length = 0 → lst eInstr x.code = .scon [] 0 0 false := fun h => by rw [List.length_eq_zero_iff.1 h]; rfl
 have e2 : x.jumps.length = 0 → ws x.jumps = .scon [] 0 0 false := fun h => by rw [List.length_eq_zero_iff.1 h]; rfl
 have e3 : x.data.length = 0 → bs x.data = .scon [] 0 0 false := fun h => by rw [List.length_eq_zero_iff.1 h]; rfl
 have e4 : x.names.length = 0 → lst eExport x.names = .scon [] 0 0 false := fun h => by rw [List.length_eq_zero_iff.1 h]; rfl
 obtain ⟨R1, R2, hV⟩ := Copied1 x (by omega) (by omega) (by omega) (by omega) (.row [lst eInstr x.code, ws x.jumps, bs x.data, w32 x.zero.toNat, w32 x.stack.toNat, lst eExport x.names] 0 6 true false)
 have hF := fun lent => Fl.FindN_ok lent (names := x.names) (by omega) hfit hfi hna
 rw [← lst_fl, ← ws_fl] at hF
 have hb := Fl.Depths_body hfit hfi m (by omega) hok (fun _ => hbad)
 rw [← lst_fl, ← ws_fl] at hb
 unfold Fl.depR at hb
 rw [if_pos hm] at hb
 generalize Fl.walkN (cF x) (Fl.cutF (cF x)) (Fl.tgts (cF x) (jF x)) m = W at *
 generalize Fl.depE _ _ _ _ _ _ = X at hb
 have hD : ∀ (B : List Blk) (r : Heap) (a1 a2 : V), viewArgs (B :: r) [a1, a2] = some [lst eInstr x.code, ws x.jumps] → callV E (om E) 18 [a1, a2] (B :: r) = some (.tuple [.nilslice, .nilslice, ii W.at_, ii W.e], (B ++ X.map (outBlk B.length)) :: r) := by
  intro B r a1 a2 hv
  rw [call_18, hv]
  simp (disch := omega) [if_pos, if_neg, iteK_pos, iteK_neg, hb]
 have he := hbad
 apply pu_6
 by_cases d1 : x.code.length = 0 <;> by_cases d2 : x.jumps.length = 0 <;> by_cases d3 : x.data.length = 0 <;> by_cases d4 : x.names.length = 0 <;>
 (simp only [cv, cn, cr] at hV
  first | simp only [if_pos d1] at hV | simp only [if_neg d1] at hV
  first | simp only [if_pos d2] at hV | simp only [if_neg d2] at hV
  first | simp only [if_pos d3] at hV | simp only [if_neg d3] at hV
  first | simp only [if_pos d4] at hV | simp only [if_neg d4] at hV
  simp only [imgV] at hC hF hD hV ⊢
  try simp only [e1 d1] at hC hF hD hV ⊢
  try simp only [e2 d2] at hC hF hD hV ⊢
  try simp only [e3 d3] at hC hV ⊢
  try simp only [e4 d4] at hC hF hV ⊢
  simp (disch := omega) [if_pos, if_neg, iteK_pos, iteK_neg, Tryz.f6, hC, hV, hF]
  rw [hD _ _ _ _ (by simp)]
  simp (disch := omega) [if_pos, if_neg, iteK_pos, iteK_neg, he])
theorem Take_bad (x : Img) (h1 : x.code.length < 2 ^ 63) (h2 : x.jumps.length < 2 ^ 63) (h3 : x.data.length < 2 ^ 63) (h4 : x.names.length < 2 ^ 63) (h : ¬ Taken x) : ∃ a e : Int, e ≠ 0 ∧ ∀ lent, pureV E (om E) 6 lent [imgV x] = some (.tuple [.nilptr, ii a, ii e]) := by
 by_cases hc : checkP x = 0
 ·obtain ⟨c1, c2, c3, c4, c5, c6, c7⟩ := check_ok hc
  have hfit := fits_fl hc
  by_cases hF : Fl.FindOk (cF x) (jF x) ∧ Fl.NamesAt (cF x) x.names
  ·obtain ⟨m, m1, m2, m3⟩ := Fl.first_bad (fun i => (Fl.walkN (cF x) (Fl.cutF (cF x)) (Fl.tgts (cF x) (jF x)) i).e ≠ 0) (Fl.cutF (cF x)).1.length
   have hm : m < (Fl.cutF (cF x)).1.length := by
    rcases Nat.lt_or_ge m (Fl.cutF (cF x)).1.length with h' | h'
    ·exact h'
    ·exact absurd ⟨hc, hF.1, hF.2, fun i hi => Classical.byContradiction (m2 i (by omega))⟩ h
   exact ⟨_, _, fun h => m3 hm (by exact_mod_cast h), fun lent => Take_flow lent x hc hF.1 hF.2 m hm (fun k hk => Classical.byContradiction (m2 k hk)) (m3 hm)⟩
  ·obtain ⟨a, e, e0, e1, hB⟩ := Fl.FindN_bad (names := x.names) (by omega) hfit hF
   rw [← lst_fl, ← ws_fl] at hB
   exact ⟨a, e, by omega, fun lent => Take_find lent x hc e0 hB⟩
 ·exact ⟨0, checkP x, by omega, fun lent => Take_check lent x h1 h2 h3 h4 hc⟩
end Go.Proofs.YtfplmcpkagpaiaaGreatDoor
end
