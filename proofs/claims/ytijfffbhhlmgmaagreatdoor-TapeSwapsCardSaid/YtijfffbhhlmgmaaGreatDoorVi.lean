/-
  Whether a tape is heavy.
-/
import Derived.Test.YtijfffbhhlmgmaaGreatDoorVa
import Derived.Test.YtijfffbhhlmgmaaGreatDoorMt
section
namespace Go.Proofs.YtijfffbhhlmgmaaGreatDoor
open Go Go.Sim Go.Sim.Tape
set_option maxRecDepth 100000
set_option maxHeartbeats 0
set_option linter.unusedSimpArgs false
set_option linter.unusedVariables false

theorem heavy_ok (lent) (t : Tp) (ht : FTp t) : pureV E (om E) 5 lent [tpV t] = some (bb (heavyF t)) := by
  apply pu_5
  have g1 := ht.takes
  have f1 := ht.each
  obtain ⟨m, g, ks⟩ := t
  dsimp only at g1 f1
  simp only [tpV, heavyF]
  simp (disch := omega) [if_pos, if_neg, iteK_pos, iteK_neg, Tryz.f5]
  refine loop_chg (dyn := []) (fun (p : Nat × Nat) => [(3, ii p.2), (4, ii p.1)]) (fun _ => []) (fun _ => [])
    (fun p => p.1 ≤ ks.length ∧ p.2 < 1125899906842624 ∧ takesL ks 0 = takesL (ks.drop p.1) p.2) (fun p => ks.length - p.1) hint_5_0 (by kernel_rfl) ?_ (0, 0) ⟨by simp, by simp, by simp⟩ (by simp)
  rintro ⟨i, n⟩ ⟨hi, hn, hp⟩ IH
  dsimp only at hi hn hp
  rw [lpB_eq]
  dsimp only
  by_cases hc : i < ks.length ∧ n < 4194304
  · obtain ⟨hil, hnl⟩ := hc
    rw [takes_step hil hnl] at hp
    have w := f1 ks[i] (List.getElem_mem _)
    have w1 := w.args
    have w2 := w.reps
    have w3 := w.res.events
    have w4 := w.res.ask.args
    have w5 := w.each
    have w6 := w.res.each
    simp (disch := omega) [if_pos, if_neg, iteK_pos, iteK_neg, hil, hnl]
    refine loop_chg (dyn := []) (fun (p : Nat × Nat) => [(3, ii p.2), (6, ii p.1)]) (fun _ => []) (fun _ => [])
      (fun p => p.1 ≤ ks[i].reps.length ∧ p.2 < 1125899906842624 ∧ repsL ks[i].reps (takeN ks[i] n) = repsL (ks[i].reps.drop p.1) p.2) (fun p => ks[i].reps.length - p.1) hint_5_1 (by kernel_rfl) ?_ (0, takeN ks[i] n) ⟨by simp, by dsimp only [takeN]; omega, by simp⟩ (by simp [takeN])
    rintro ⟨j, n2⟩ ⟨hj, hn2, hq⟩ IHj
    dsimp only at hj hn2 hq
    rw [lpB_eq]
    dsimp only
    by_cases hc : j < ks[i].reps.length ∧ n2 < 4194304
    · obtain ⟨hjl, hnl2⟩ := hc
      rw [reps_step hjl hnl2] at hq
      have x := w5 ks[i].reps[j] (List.getElem_mem _)
      have x1 := x.writes
      have x2 := x.each
      clear IH
      simp (disch := omega) [if_pos, if_neg, iteK_pos, iteK_neg, hil, hjl, hnl2]
      refine loop_chg (dyn := []) (fun (p : Nat × Nat) => [(3, ii p.2), (7, ii p.1)]) (fun _ => []) (fun _ => [])
        (fun p => p.1 ≤ ks[i].reps[j].writes.length ∧ p.2 < 1125899906842624 ∧ writesL ks[i].reps[j].writes (n2 + ks[i].reps[j].writes.length) = writesL (ks[i].reps[j].writes.drop p.1) p.2) (fun p => ks[i].reps[j].writes.length - p.1) hint_5_2 (by kernel_rfl) ?_ (0, n2 + ks[i].reps[j].writes.length) ⟨by simp, by dsimp only; omega, by simp⟩ (by simp)
      rintro ⟨z, n3⟩ ⟨hz, hn3, hr⟩ IHz
      dsimp only at hz hn3 hr
      rw [lpB_eq]
      dsimp only
      by_cases hc : z < ks[i].reps[j].writes.length ∧ n3 < 4194304
      · obtain ⟨hzl, hnl3⟩ := hc
        rw [writes_step hzl hnl3] at hr
        have y1 := (x2 ks[i].reps[j].writes[z] (List.getElem_mem _)).bytes
        clear IHj
        simp (disch := omega) [if_pos, if_neg, iteK_pos, iteK_neg, hil, hjl, hzl, hnl3]
        exact IHz (z + 1, n3 + ks[i].reps[j].writes[z].bytes.length) _ _ ⟨by dsimp only; omega, by dsimp only; omega, hr⟩ (by dsimp only; omega) (by simp)
      · rw [writes_end hc] at hr
        clear IHz
        have hstep : j + 1 ≤ ks[i].reps.length := by omega
        by_cases hzl : z < ks[i].reps[j].writes.length
        · have hnl3 : ¬ n3 < 4194304 := fun h => hc ⟨hzl, h⟩
          simp (disch := omega) [if_pos, if_neg, iteK_pos, iteK_neg, hil, hjl, hzl, hnl3]
          exact IHj (j + 1, n3) _ _ ⟨by dsimp only; omega, by dsimp only; omega, by dsimp only; rw [hq, hr]⟩ (by dsimp only; omega) (by simp)
        · obtain rfl : z = ks[i].reps[j].writes.length := by omega
          simp (disch := omega) [if_pos, if_neg, iteK_pos, iteK_neg, hil, hjl, hzl]
          exact IHj (j + 1, n3) _ _ ⟨by dsimp only; omega, by dsimp only; omega, by dsimp only; rw [hq, hr]⟩ (by dsimp only; omega) (by simp)
    · rw [reps_end hc] at hq
      clear IHj
      by_cases hjl : j < ks[i].reps.length
      · have hnl2 : ¬ n2 < 4194304 := fun h => hc ⟨hjl, h⟩
        simp (disch := omega) [if_pos, if_neg, iteK_pos, iteK_neg, hil, hjl, hnl2]
        refine loop_chg (dyn := []) (fun (p : Nat × Nat) => [(3, ii p.2), (8, ii p.1)]) (fun _ => []) (fun _ => [])
          (fun p => p.1 ≤ ks[i].res.events.length ∧ p.2 < 1125899906842624 ∧ evsL ks[i].res.events n2 = evsL (ks[i].res.events.drop p.1) p.2) (fun p => ks[i].res.events.length - p.1) hint_5_3 (by kernel_rfl) ?_ (0, n2) ⟨by simp, by dsimp only; omega, by simp⟩ (by simp)
        rintro ⟨z, n3⟩ ⟨hz, hn3, hr⟩ IHz
        dsimp only at hz hn3 hr
        rw [lpB_eq]
        dsimp only
        by_cases hc : z < ks[i].res.events.length ∧ n3 < 4194304
        · obtain ⟨hzl, hnl3⟩ := hc
          rw [evs_step hzl hnl3] at hr
          have y1 := (w6 ks[i].res.events[z] (List.getElem_mem _)).args
          clear IH
          simp (disch := omega) [if_pos, if_neg, iteK_pos, iteK_neg, hil, hzl, hnl3]
          exact IHz (z + 1, n3 + ks[i].res.events[z].args.length) _ _ ⟨by dsimp only; omega, by dsimp only; omega, hr⟩ (by dsimp only; omega) (by simp)
        · rw [evs_end hc] at hr
          clear IHz
          by_cases hzl : z < ks[i].res.events.length
          · have hnl3 : ¬ n3 < 4194304 := fun h => hc ⟨hzl, h⟩
            simp (disch := omega) [if_pos, if_neg, iteK_pos, iteK_neg, hil, hzl, hnl3]
            exact IH (i + 1, n3) _ _ ⟨by dsimp only; omega, by dsimp only; omega, by dsimp only; rw [hp, hq, hr]⟩ (by dsimp only; omega) (by simp)
          · obtain rfl : z = ks[i].res.events.length := by omega
            simp (disch := omega) [if_pos, if_neg, iteK_pos, iteK_neg, hil, hzl]
            exact IH (i + 1, n3) _ _ ⟨by dsimp only; omega, by dsimp only; omega, by dsimp only; rw [hp, hq, hr]⟩ (by dsimp only; omega) (by simp)
      · obtain rfl : j = ks[i].reps.length := by omega
        simp (disch := omega) [if_pos, if_neg, iteK_pos, iteK_neg, hil, hjl]
        refine loop_chg (dyn := []) (fun (p : Nat × Nat) => [(3, ii p.2), (8, ii p.1)]) (fun _ => []) (fun _ => [])
          (fun p => p.1 ≤ ks[i].res.events.length ∧ p.2 < 1125899906842624 ∧ evsL ks[i].res.events n2 = evsL (ks[i].res.events.drop p.1) p.2) (fun p => ks[i].res.events.length - p.1) hint_5_3 (by kernel_rfl) ?_ (0, n2) ⟨by simp, by dsimp only; omega, by simp⟩ (by simp)
        rintro ⟨z, n3⟩ ⟨hz, hn3, hr⟩ IHz
        dsimp only at hz hn3 hr
        rw [lpB_eq]
        dsimp only
        by_cases hc : z < ks[i].res.events.length ∧ n3 < 4194304
        · obtain ⟨hzl, hnl3⟩ := hc
          rw [evs_step hzl hnl3] at hr
          have y1 := (w6 ks[i].res.events[z] (List.getElem_mem _)).args
          clear IH
          simp (disch := omega) [if_pos, if_neg, iteK_pos, iteK_neg, hil, hzl, hnl3]
          exact IHz (z + 1, n3 + ks[i].res.events[z].args.length) _ _ ⟨by dsimp only; omega, by dsimp only; omega, hr⟩ (by dsimp only; omega) (by simp)
        · rw [evs_end hc] at hr
          clear IHz
          by_cases hzl : z < ks[i].res.events.length
          · have hnl3 : ¬ n3 < 4194304 := fun h => hc ⟨hzl, h⟩
            simp (disch := omega) [if_pos, if_neg, iteK_pos, iteK_neg, hil, hzl, hnl3]
            exact IH (i + 1, n3) _ _ ⟨by dsimp only; omega, by dsimp only; omega, by dsimp only; rw [hp, hq, hr]⟩ (by dsimp only; omega) (by simp)
          · obtain rfl : z = ks[i].res.events.length := by omega
            simp (disch := omega) [if_pos, if_neg, iteK_pos, iteK_neg, hil, hzl]
            exact IH (i + 1, n3) _ _ ⟨by dsimp only; omega, by dsimp only; omega, by dsimp only; rw [hp, hq, hr]⟩ (by dsimp only; omega) (by simp)
  · rw [takes_end hc] at hp
    clear IH
    by_cases hil : i < ks.length
    · have hnl : ¬ n < 4194304 := fun h => hc ⟨hil, h⟩
      simp (disch := omega) [if_pos, if_neg, iteK_pos, iteK_neg, hil, hnl, hp]
      omega
    · obtain rfl : i = ks.length := by omega
      simp (disch := omega) [if_pos, if_neg, iteK_pos, iteK_neg, hil, hp]
      omega
end Go.Proofs.YtijfffbhhlmgmaaGreatDoor
end
