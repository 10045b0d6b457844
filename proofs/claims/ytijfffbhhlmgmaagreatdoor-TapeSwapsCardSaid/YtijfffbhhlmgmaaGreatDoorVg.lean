/-
  How two tapes differ: tape.Compare.
  Differences that are compared; the law's same.
-/
import Derived.Test.YtijfffbhhlmgmaaGreatDoorVb
section
namespace Go.Proofs.YtijfffbhhlmgmaaGreatDoor
open Go Go.Sim Go.Sim.Tape
set_option maxRecDepth 100000
set_option maxHeartbeats 0
set_option linter.unusedSimpArgs false
set_option linter.unusedVariables false

theorem tCompare (lent) (x y : Tp) (hx : FTp x) (hy : FTp y) : pureV E (om E) 8 lent [tpV x, tpV y] = some (dfV (cmpF x y)) := by
  apply pu_8
  have g1 := hx.grants
  have g2 := hy.grants
  have t1 := hx.takes
  have t2 := hy.takes
  have f1 := hx.each
  have f2 := hy.each
  have hG := fun lent => EqualG lent x.grants y.grants (by omega) (by omega)
  obtain ⟨xm, xg, a⟩ := x
  obtain ⟨ym, yg, b⟩ := y
  dsimp only at g1 g2 t1 t2 f1 f2 hG ⊢
  simp only [cmpF, tpV]
  by_cases h1 : xm = ym
  · subst h1
    by_cases h2 : xg = yg
    · subst h2
      simp (disch := omega) [if_pos, if_neg, iteK_pos, iteK_neg, Tryz.f8, hG]
      refine loop_chg (dyn := [7]) (fun n : Nat => [(33, .int .i64 n)]) (fun _ => []) (fun _ => [])
        (fun n => n ≤ a.length ∧ n ≤ b.length ∧ cmpTakes a b 0 = cmpTakes (a.drop n) (b.drop n) n) (fun n => a.length - n) hint_8_0 (by kernel_rfl) ?_ 0 (by simp) (by simp)
      rintro n ⟨hna, hnb, hp⟩ IH
      rw [lpB_eq]
      by_cases hlt : n < a.length ∧ n < b.length
      · obtain ⟨hla, hlb⟩ := hlt
        rw [cmp_step hla hlb] at hp
        have w1 := f1 a[n] (List.getElem_mem _)
        have w2 := f2 b[n] (List.getElem_mem _)
        have v1 := w1.args
        have v2 := w2.args
        have u1 := w1.reps
        have u2 := w2.reps
        have hW := fun lent => EqualW lent a[n].args b[n].args (by omega) (by omega)
        have hQ := fun lent => EqualRp lent a[n].reps b[n].reps (by omega) (by omega) w1.each w2.each
        have hR := fun lent => tResults lent a[n].res b[n].res w1.res w2.res
        have hr9 := resF_lt a[n].res b[n].res
        simp (disch := omega) [if_pos, if_neg, iteK_pos, iteK_neg, hla, hlb]
        rw [iteK_pos (by kernel_rfl)]
        have hce : callEq a[n] b[n] = decide (a[n].kind = b[n].kind ∧ a[n].at_ = b[n].at_ ∧ a[n].fuel = b[n].fuel ∧ a[n].args = b[n].args ∧ a[n].reps = b[n].reps) := rfl
        by_cases c1 : a[n].kind = b[n].kind
        · by_cases c2 : a[n].at_ = b[n].at_
          · by_cases c3 : a[n].args = b[n].args
            · by_cases c4 : a[n].fuel = b[n].fuel
              · by_cases c5 : a[n].reps = b[n].reps
                · rw [if_pos (by rw [hce]; simp [c1, c2, c3, c4, c5])] at hp
                  have hW' := fun lent => EqualW lent b[n].args b[n].args (by omega) (by omega)
                  have hQ' := fun lent => EqualRp lent b[n].reps b[n].reps (by omega) (by omega) w2.each w2.each
                  by_cases hr : (resF a[n].res b[n].res).1 = 0
                  · rw [if_pos hr] at hp
                    simp (disch := omega) [if_pos, if_neg, iteK_pos, iteK_neg, c1, c2, c3, c4, c5, hW', hQ', hR, hr]
                    refine IH (n + 1) _ _ ⟨by omega, by omega, hp⟩ (by omega) (by simp)
                  · rw [if_neg hr] at hp
                    clear IH
                    have hr' : ¬ (((resF a[n].res b[n].res).1 : Nat) : Int) = 0 := by omega
                    simp (disch := omega) [if_pos, if_neg, iteK_pos, iteK_neg, c1, c2, c3, c4, c5, hW', hQ', hR, hr', hp]
                · rw [if_neg (by rw [hce]; simp [c5])] at hp
                  have hW' := fun lent => EqualW lent b[n].args b[n].args (by omega) (by omega)
                  clear IH
                  simp (disch := omega) [if_pos, if_neg, iteK_pos, iteK_neg, c1, c2, c3, c4, c5, hW', hQ, hp]
              · rw [if_neg (by rw [hce]; simp [c4])] at hp
                have hW' := fun lent => EqualW lent b[n].args b[n].args (by omega) (by omega)
                clear IH
                simp (disch := omega) [if_pos, if_neg, iteK_pos, iteK_neg, c1, c2, c3, c4, hW', hp]
            · rw [if_neg (by rw [hce]; simp [c3])] at hp
              clear IH
              simp (disch := omega) [if_pos, if_neg, iteK_pos, iteK_neg, c1, c2, c3, hW, hp]
          · have c2' := nat32 c2
            rw [if_neg (by rw [hce]; simp [c2])] at hp
            clear IH
            simp (disch := omega) [if_pos, if_neg, iteK_pos, iteK_neg, c1, c2', hp]
        · have c1' := nat8 c1
          rw [if_neg (by rw [hce]; simp [c1])] at hp
          clear IH
          simp (disch := omega) [if_pos, if_neg, iteK_pos, iteK_neg, c1', hp]
      · have he := cmp_end (a := a) (b := b) (n := n) (by omega)
        rw [he] at hp
        clear IH
        by_cases he2 : a.length = b.length
        · rw [if_pos he2] at hp
          obtain rfl : n = a.length := by omega
          simp (disch := omega) [if_pos, if_neg, iteK_pos, iteK_neg, hp, he2]
        · rw [if_neg he2] at hp
          rcases Nat.lt_or_ge n a.length with hl | hl
          · obtain rfl : n = b.length := by omega
            simp (disch := omega) [if_pos, if_neg, iteK_pos, iteK_neg, hl, hp, he2]
          · obtain rfl : n = a.length := by omega
            simp (disch := omega) [if_pos, if_neg, iteK_pos, iteK_neg, hp, he2]
    · simp (disch := omega) [if_pos, if_neg, iteK_pos, iteK_neg, Tryz.f8, hG, h2]
  · have h' := nat64 h1
    simp (disch := omega) [if_pos, if_neg, iteK_pos, iteK_neg, Tryz.f8, h1, h']
end Go.Proofs.YtijfffbhhlmgmaaGreatDoor
end
section
namespace Go.Proofs.YtijfffbhhlmgmaaGreatDoor
open Go Go.Sim Go.Sim.Tape
set_option maxRecDepth 100000
set_option maxHeartbeats 0
set_option linter.unusedSimpArgs false
set_option linter.unusedVariables false

theorem eqDf (x y : Operand) (a b : Nat × Nat × Nat) : binO E .eql 32 x y (dfV a) (dfV b) = some (bb (decide (a = b))) := by
  refine (binO_eql (c := decide (a = b)) ?_)
  rw [eqV_struct (n := 199) (by rw [E_P]; exact Tryz.underlying32) (by kernel_rfl)]
  obtain ⟨a0, a1, a2⟩ := a
  obtain ⟨b0, b1, b2⟩ := b
  have i0 : eqV E 198 30 (.int .u8 (a0 : Int)) (.int .u8 (b0 : Int)) = some ((a0 : Int) == (b0 : Int)) := eqV_int (n := 197) (by rw [E_P]; exact Tryz.underlying30)
  have i1 : eqV E 197 3 (ii (a1 : Int)) (ii (b1 : Int)) = some ((a1 : Int) == (b1 : Int)) := eqV_int (n := 196) (by rw [E_P]; exact Tryz.underlying3)
  have i2 : eqV E 196 3 (ii (a2 : Int)) (ii (b2 : Int)) = some ((a2 : Int) == (b2 : Int)) := eqV_int (n := 195) (by rw [E_P]; exact Tryz.underlying3)
  show eqFields E (198 + 1) [_, _, _] _ _ = _
  rw [eqF_cons (a := .int .u8 (a0 : Int)) (b := .int .u8 (b0 : Int)) rfl (by rw [E_P]; simp) rfl rfl, i0, Option.bind_some]
  by_cases h0 : a0 = b0
  · subst h0
    rw [if_pos (by simp)]
    show eqFields E (197 + 1) [_, _] _ _ = _
    rw [eqF_cons (a := ii (a1 : Int)) (b := ii (b1 : Int)) rfl (by rw [E_P]; simp) rfl rfl, i1, Option.bind_some]
    by_cases h1 : a1 = b1
    · subst h1
      rw [if_pos (by simp)]
      show eqFields E (196 + 1) [_] _ _ = _
      rw [eqF_cons (a := ii (a2 : Int)) (b := ii (b2 : Int)) rfl (by rw [E_P]; simp) rfl rfl, i2, Option.bind_some]
      by_cases h2 : a2 = b2
      · subst h2
        rw [if_pos (by simp)]
        show eqFields E (195 + 1) [] _ _ = _
        rw [eqF_nil]; simp
      · rw [if_neg (by simp; omega)]; simp [h2]
    · rw [if_neg (by simp; omega)]; simp [h1]
  · rw [if_neg (by simp; omega)]; simp [h0]
end Go.Proofs.YtijfffbhhlmgmaaGreatDoor
end
