/-
  Package fold: Longest.
-/
import Derived.Test.YtjmipgfaghjgmaaNf
import Derived.Test.YtjmipgfaghjgmaaMe
section
namespace Go.Proofs.Ytjmipgfaghjgmaa
open Go Go.Sim
set_option maxRecDepth 100000
set_option linter.unusedSimpArgs false
set_option linter.unusedVariables false
def FL.nil : FL := ⟨List.replicate 64 0, 0, rfl⟩
theorem zero_list : zeroV Try.prog 108 = some (.agg FL.nil.cells) := by kernel_rfl
/-- The longest piece of a window: its length, kind, value. -/
def foldGo : List Instr → Nat → FL → Nat × Nat × Nat → Nat × Nat × Nat
  | [], _, _, b => b
  | x :: r, i, l, b =>
    let t := takeF l x
    if t.1 = 1 then b else
    let b1 := if 0 < i ∧ t.1 = 0 ∧ t.2.n = 1 then (i + 1, 2, t.2.at_ 0) else b
    let b2 := if 0 < i ∧ t.2.n = 0 then (if t.1 = 2 then (i + 1, 3, x.arg) else (i + 1, 4, 0)) else b1
    if t.1 = 0 then foldGo r (i + 1) t.2 b2 else b2
/-- What is wrong with the first instruction, else the piece. -/
def foldF (w : List Instr) : Except Nat (Nat × Nat × Nat) :=
  match w with
  | [] => .error 2
  | x :: r => if insBad x = 0 then .ok (foldGo (x :: r) 0 FL.nil (1, 1, 0)) else .error (insBad x)
def win (c : List Instr) (a e : Nat) : List Instr := (c.take e).drop a
abbrev pieceV (a : Nat) (p : Nat × Nat × Nat) : V := .agg [.int .u32 a, .int .u32 p.1, .int .u8 p.2.1, .int .u32 p.2.2]
abbrev foldV (a : Nat) : Except Nat (Nat × Nat × Nat) → V
  | .ok p => .tuple [pieceV a p, ii 0]
  | .error e => .tuple [pieceV 0 (0, 0, 0), ii e]
theorem pushF_n (l : FL) (w : Nat) (h : l.n ≤ 64) : (pushF l w).2.n ≤ 64 := by
  unfold pushF; split
  · exact h
  · simp; omega
theorem oneF_n (l : FL) (op : Nat) (h : l.n ≤ 64) : (oneF l op).2.n ≤ 64 := by
  unfold oneF; dsimp only; split
  · exact h
  split
  · simp; omega
  split
  · exact pushF_n _ _ h
  · simpa using h
theorem twoF_n (l : FL) (op : Nat) (b : Bool) (h : l.n ≤ 64) : (twoF l op b).2.n ≤ 64 := by
  unfold twoF; dsimp only; split
  · exact h
  split
  · simp; omega
  split
  · exact h
  · simp; omega
theorem takeF_n (l : FL) (i : Instr) (h : l.n ≤ 64) : (takeF l i).2.n ≤ 64 := by
  unfold takeF; dsimp only
  repeat' split
  all_goals first | exact h | exact twoF_n _ _ _ h | exact pushF_n _ _ h | exact oneF_n _ _ h
theorem twoF_c (l : FL) (op : Nat) (b : Bool) : (twoF l op b).1 = 0 ∨ (twoF l op b).1 = 1 ∨ (twoF l op b).1 = 2 ∨ (twoF l op b).1 = 3 := by
  unfold twoF; dsimp only
  repeat' split
  all_goals simp
theorem takeF_c (l : FL) (i : Instr) : (takeF l i).1 = 0 ∨ (takeF l i).1 = 1 ∨ (takeF l i).1 = 2 ∨ (takeF l i).1 = 3 := by
  unfold takeF; dsimp only
  repeat' split
  all_goals first | exact twoF_c _ _ _ | simp
theorem win_cons {c : List Instr} {a e : Nat} (ha : a < e) (he : e ≤ c.length) : win c a e = c[a] :: win c (a + 1) e := by
  unfold win
  rw [List.drop_eq_getElem_cons (by simp; omega)]
  simp
theorem win_nil (c : List Instr) (e : Nat) : win c e e = [] := by
  unfold win; simp
set_option maxHeartbeats 2000000 in
theorem FoldLongest (lent) (c : List Instr) (a e : Nat) (hl : c.length < 2 ^ 63) (ha : a < e) (he : e ≤ c.length) (hea : e < 4294967296) : pureV E (om E) 61 lent [lst eInstr c, .int .u32 a, .int .u32 e] = some (foldV a (foldF (win c a e))) := by
  have hw := win_cons ha he
  apply pu_61
  by_cases h1 : insBad c[a] = 0
  · simp (disch := omega) [if_pos, if_neg, iteK_pos, iteK_neg, Try.f61, IsaCheck, h1, zero_list]
    refine loop_chg (dyn := [18]) (fun x : Nat × FL × (Nat × Nat × Nat) => [(11, .int .u32 x.1)])
      (fun x => [(0, 1, .row [.int .u32 a, .int .u32 x.2.2.1, .int .u8 x.2.2.2.1, .int .u32 x.2.2.2.2] 0 4 true true), (0, 2, .row x.2.1.cells 0 65 true true)]) (fun _ => [])
      (fun x => a ≤ x.1 ∧ x.1 ≤ e ∧ x.2.1.n ≤ 64 ∧ foldF (win c a e) = .ok (foldGo (win c x.1 e) (x.1 - a) x.2.1 x.2.2)) (fun x => e - x.1) hint_61_0 (by kernel_rfl) ?_ (a, FL.nil, 1, 1, 0) ⟨by simp, by simp; omega, by simp [FL.nil], ?_⟩ (by simp)
    · rintro ⟨i, l, b⟩ ⟨hi1, hi2, hn, hf⟩ IH
      dsimp only at hi1 hi2 hn hf
      rw [lpB_eq]
      by_cases hie : i = e
      · subst hie
        rw [win_nil, foldGo] at hf
        clear IH
        rw [hf]
        simp (disch := omega) [if_pos, if_neg, iteK_pos, iteK_neg]
      · have hlt : i < e := by omega
        have htake : ∀ (b0 b1 : Blk), callV E (om E) 68 [.pref 0 2 0 0, .agg [.int .u8 c[i].op, .int .u32 c[i].arg]] [[b0, b1, .row l.cells 0 65 true true]] = some (.int .u8 (takeF l c[i]).1, [[b0, b1, .row (takeF l c[i]).2.cells 0 65 true true]]) := by
          intro b0 b1
          have := take (h := [[b0, b1, .row l.cells 0 65 true true]]) (d := 0) (j := 2) (l := l) rfl c[i] hn
          simpa [FL.blk] using this
        have hn' := takeF_n l c[i] hn
        have hc := takeF_c l c[i]
        have hw0 := FL.cells_w (takeF l c[i]).2 (i := 0) (by omega)
        rw [win_cons hlt he, foldGo] at hf
        generalize takeF l c[i] = t at *
        obtain ⟨how, l'⟩ := t
        dsimp only at htake hn' hc hw0 hf
        have hI : ((i + 1 - a : Nat) : Int) = (i : Int) - a + 1 := by omega
        have hia : (0 < i - a) = (a < i) := propext (by omega)
        simp only [hia, show i - a + 1 = i + 1 - a by omega] at hf
        rcases hc with rfl | rfl | rfl | rfl
        · rw [if_neg (by omega), if_pos rfl] at hf
          by_cases g1 : a < i
          · by_cases g2 : l'.n = 1
            · rw [if_neg (by omega), if_pos ⟨g1, rfl, g2⟩] at hf
              simp (disch := omega) [if_pos, if_neg, iteK_pos, iteK_neg, htake, g1, g2, hw0]
              exact IH (i + 1, l', i + 1 - a, 2, l'.at_ 0) _ _ ⟨by dsimp only; omega, by dsimp only; omega, hn', hf⟩ (by dsimp only; omega) (by simp [hI])
            by_cases g3 : l'.n = 0
            · rw [if_pos ⟨g1, g3⟩, if_neg (by omega)] at hf
              simp (disch := omega) [if_pos, if_neg, iteK_pos, iteK_neg, htake, g1, g2, g3, hw0]
              exact IH (i + 1, l', i + 1 - a, 4, 0) _ _ ⟨by dsimp only; omega, by dsimp only; omega, hn', hf⟩ (by dsimp only; omega) (by simp [hI])
            · rw [if_neg (by omega), if_neg (by omega)] at hf
              simp (disch := omega) [if_pos, if_neg, iteK_pos, iteK_neg, htake, g1, g2, g3, hw0]
              exact IH (i + 1, l', b) _ _ ⟨by dsimp only; omega, by dsimp only; omega, hn', hf⟩ (by dsimp only; omega) (by simp)
          · rw [if_neg (by omega), if_neg (by omega)] at hf
            simp (disch := omega) [if_pos, if_neg, iteK_pos, iteK_neg, htake, g1, hw0]
            exact IH (i + 1, l', b) _ _ ⟨by dsimp only; omega, by dsimp only; omega, hn', hf⟩ (by dsimp only; omega) (by simp)
        · rw [if_pos rfl] at hf
          clear IH
          rw [hf]
          simp (disch := omega) [if_pos, if_neg, iteK_pos, iteK_neg, htake]
          refine goto_use [] rfl (by kernel_rfl) ?_
          simp (disch := omega) [if_pos, if_neg, iteK_pos, iteK_neg]
        · clear IH
          rw [if_neg (by omega), if_neg (by omega)] at hf
          rw [hf]
          by_cases g1 : a < i
          · by_cases g3 : l'.n = 0
            · simp (disch := omega) [if_pos, if_neg, iteK_pos, iteK_neg, htake, g1, g3, hw0]
              rw [iteK_pos (by kernel_rfl)]
              simp (disch := omega) [if_pos, if_neg, iteK_pos, iteK_neg]
              refine goto_use [] rfl (by kernel_rfl) ?_
              simp (disch := omega) [if_pos, if_neg, iteK_pos, iteK_neg, hI]
            · simp (disch := omega) [if_pos, if_neg, iteK_pos, iteK_neg, htake, g1, g3, hw0]
              refine goto_use [] rfl (by kernel_rfl) ?_
              simp (disch := omega) [if_pos, if_neg, iteK_pos, iteK_neg, hI]
          · simp (disch := omega) [if_pos, if_neg, iteK_pos, iteK_neg, htake, g1, hw0]
            refine goto_use [] rfl (by kernel_rfl) ?_
            simp (disch := omega) [if_pos, if_neg, iteK_pos, iteK_neg, hI]
        · clear IH
          rw [if_neg (by omega), if_neg (by omega)] at hf
          rw [hf]
          by_cases g1 : a < i
          · by_cases g3 : l'.n = 0
            · simp (disch := omega) [if_pos, if_neg, iteK_pos, iteK_neg, htake, g1, g3, hw0]
              refine goto_use [] rfl (by kernel_rfl) ?_
              simp (disch := omega) [if_pos, if_neg, iteK_pos, iteK_neg, hI]
            · simp (disch := omega) [if_pos, if_neg, iteK_pos, iteK_neg, htake, g1, g3, hw0]
              refine goto_use [] rfl (by kernel_rfl) ?_
              simp (disch := omega) [if_pos, if_neg, iteK_pos, iteK_neg, hI]
          · simp (disch := omega) [if_pos, if_neg, iteK_pos, iteK_neg, htake, g1, hw0]
            refine goto_use [] rfl (by kernel_rfl) ?_
            simp (disch := omega) [if_pos, if_neg, iteK_pos, iteK_neg, hI]
    · rw [hw, foldF, if_pos h1]
      simp
  · simp (disch := omega) [if_pos, if_neg, iteK_pos, iteK_neg, Try.f61, IsaCheck, h1, hw, foldF]
end Go.Proofs.Ytjmipgfaghjgmaa
end
