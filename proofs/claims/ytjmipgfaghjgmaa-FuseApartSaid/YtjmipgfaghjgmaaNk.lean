/-
  FuseApart.
-/
import Derived.Test.YtjmipgfaghjgmaaNj
section
namespace Go.Proofs.Ytjmipgfaghjgmaa
open Go Go.Sim
set_option maxRecDepth 100000
set_option linter.unusedSimpArgs false
set_option linter.unusedVariables false
/-- Other code outside of a stretch. -/
def turnAt (c o : List Instr) (a e i : Nat) : Instr := if (i < a ∨ e ≤ i) ∧ i < o.length then o.getD i i0 else c.getD i i0
def turnTo (c o : List Instr) (a e n : Nat) : List Instr := (List.range n).map (turnAt c o a e)
theorem turn_win (c o : List Instr) (a e : Nat) (h : e ≤ c.length) : win (turnTo c o a e c.length) a e = win c a e := by
  apply List.ext_getElem?
  intro i
  rw [win_get, win_get]
  by_cases h1 : a + i < e
  · rw [if_pos h1, if_pos h1]
    unfold turnTo
    rw [List.getElem?_map, List.getElem?_range (by omega)]
    show some (turnAt c o a e (a + i)) = _
    unfold turnAt
    rw [if_neg (by omega), List.getD_eq_getElem?_getD, List.getElem?_eq_getElem (by omega)]
    rfl
  · rw [if_neg h1, if_neg h1]
theorem FuseApart (lent) (c o : List Instr) (a e : Nat) (ha : a < 4294967296) (he : e < 4294967296) (hc : c.length < 2 ^ 44) (ho : o.length < 2 ^ 63) :
    pureV E (om E) 4 lent [lst eInstr c, lst eInstr o, .int .u32 a, .int .u32 e] = some (bb true) := by
  apply pu_4
  simp (disch := omega) [if_pos, if_neg, iteK_pos, iteK_neg, Try.f4, awake]
  refine loop_chg (dyn := []) (fun n : Nat => [(9, .sref 0 0 0 n n (2, false)), (10, ii n)]) (fun _ => []) (fun n => [.row (cat eInstr (turnTo c o a e n)) n 2 true true])
    (fun n => n ≤ c.length) (fun n => c.length - n) hint_4_0 (by kernel_rfl) ?_ 0 (by simp) (by simp [turnTo])
  intro n hn IH
  rw [lpB_eq]
  by_cases hlt : n < c.length
  · have hsnoc : ∀ x, turnAt c o a e n = x → cat eInstr (turnTo c o a e n) ++ [.int .u8 x.op, .int .u32 x.arg] = cat eInstr (turnTo c o a e (n + 1)) := by
      rintro x rfl
      unfold turnTo
      rw [List.range_succ, List.map_append, cat_append]
      rfl
    have hlen : (turnTo c o a e n).length = n := by simp [turnTo]
    have htk : (turnTo c o a e n).take n = turnTo c o a e n := List.take_of_length_le (by omega)
    by_cases g : (n < a ∨ e ≤ n) ∧ n < o.length
    · have g2 := g.2
      have hx : turnAt c o a e n = o[n] := by unfold turnAt; rw [if_pos g, List.getD_eq_getElem?_getD, List.getElem?_eq_getElem g.2]; rfl
      have hs := hsnoc _ hx
      by_cases g3 : n < a
      · simp (disch := omega) [if_pos, if_neg, iteK_pos, iteK_neg, hlt, g2, g3]
        exact IH (n + 1) _ _ (by omega) (by omega) (by simp [hs, htk])
      · have g4 : e ≤ n := by omega
        simp (disch := omega) [if_pos, if_neg, iteK_pos, iteK_neg, hlt, g2, g3, g4]
        exact IH (n + 1) _ _ (by omega) (by omega) (by simp [hs, htk])
    · have hx : turnAt c o a e n = c[n] := by unfold turnAt; rw [if_neg g, List.getD_eq_getElem?_getD, List.getElem?_eq_getElem hlt]; rfl
      have hs := hsnoc _ hx
      by_cases g1 : n < a ∨ e ≤ n
      · have g2 : ¬ n < o.length := fun h => g ⟨g1, h⟩
        by_cases g3 : n < a
        · simp (disch := omega) [if_pos, if_neg, iteK_pos, iteK_neg, hlt, g2, g3]
          exact IH (n + 1) _ _ (by omega) (by omega) (by simp [hs, htk])
        · have g4 : e ≤ n := by omega
          simp (disch := omega) [if_pos, if_neg, iteK_pos, iteK_neg, hlt, g2, g3, g4]
          exact IH (n + 1) _ _ (by omega) (by omega) (by simp [hs, htk])
      · have g3 : ¬ n < a := by omega
        have g4 : ¬ e ≤ n := by omega
        simp (disch := omega) [if_pos, if_neg, iteK_pos, iteK_neg, hlt, g3, g4]
        exact IH (n + 1) _ _ (by omega) (by omega) (by simp [hs, htk])
  · obtain rfl : n = c.length := by omega
    clear IH
    have hT : (turnTo c o a e c.length).length = c.length := by simp [turnTo]
    have hw := turn_win c o a e
    generalize turnTo c o a e c.length = T at *
    have e9 : V.scon (V.canonL (cutCells (cat eInstr T) 0 c.length 2)) 0 c.length false = lst eInstr T := res_lst eInstr hT.symm rfl
    have h1 : ∃ X, (∀ lent, pureV E (om E) 8 lent [lst eInstr c, .int .u32 a, .int .u32 e] = some (longV a X)) ∧ ∀ lent, pureV E (om E) 8 lent [lst eInstr T, .int .u32 a, .int .u32 e] = some (longV a X) := by
      by_cases hl : a < e ∧ e ≤ c.length
      · refine ⟨_, fun lent => Longest lent ⟨hl.1, hl.2, he, by omega⟩, fun lent => ?_⟩
        rw [← hw hl.2]
        exact Longest lent ⟨hl.1, by omega, he, by omega⟩
      · exact ⟨_, fun lent => LongestBad lent c a e ha he (by omega) hl, fun lent => LongestBad lent T a e ha he (by omega) (by rw [hT]; exact hl)⟩
    obtain ⟨X, h1, h2⟩ := h1
    cases X with
    | ok p => simp (disch := omega) [if_pos, if_neg, iteK_pos, iteK_neg, hlt, h1, e9, h2, eql_fused]
    | error x => simp (disch := omega) [if_pos, if_neg, iteK_pos, iteK_neg, hlt, h1, e9, h2, eql_fused]
end Go.Proofs.Ytjmipgfaghjgmaa
end
