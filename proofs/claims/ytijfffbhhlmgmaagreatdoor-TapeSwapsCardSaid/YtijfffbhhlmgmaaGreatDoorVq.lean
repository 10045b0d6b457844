/-
  Which results may be: tape.told.
-/
import Derived.Test.YtijfffbhhlmgmaaGreatDoorVp
section
namespace Go.Proofs.YtijfffbhhlmgmaaGreatDoor
open Go Go.Sim Go.Sim.Tape
set_option maxRecDepth 100000
set_option maxHeartbeats 0
set_option linter.unusedSimpArgs false
set_option linter.unusedVariables false

abbrev takeV (x : Tk) : V := .agg [u8V x.kind, u32V x.at_, ws x.args, .int .i64 x.fuel, lst eRp x.reps, u8V x.res.fin, u32V x.res.at_, u32V x.res.val, u8V x.res.fault, .int .i64 x.res.used, .int .i64 x.res.nrep, lst eEv x.res.events, u32V x.res.ask.at_, u32V x.res.ask.num, ws x.res.ask.args, u32V x.res.ask.val]
theorem eventsF_step {gs : List Gr} {reps : List Rp} {es : List Ev} {i : Nat} (h : i < es.length) (hr : i < reps.length) : eventsF gs reps (es.drop i) i = (grantedF gs es[i] && decide (es[i].val = reps[i].val) && eventsF gs reps (es.drop (i + 1)) (i + 1)) := by
  rw [List.drop_eq_getElem_cons h, eventsF, List.getElem?_eq_getElem hr]
theorem eventsF_end {gs : List Gr} {reps : List Rp} {es : List Ev} {i : Nat} (h : ¬ i < es.length) : eventsF gs reps (es.drop i) i = true := by
  rw [List.drop_of_length_le (by omega)]; rfl
theorem u32_ne {x y : UInt32} (h : ¬ x = y) : ¬ x.toNat = y.toNat := fun e => h (UInt32.toNat_inj.1 e)
theorem tTold {h : Heap} {d j : Nat} {gs : List Gr} (hG : GateAt h d j gs) (t : Tk) (ht : FTk t) : callV E (om E) 64 [.pref d j 0 0, takeV t] h = some (.bool (toldF gs t), h) := by
  have k1 := ht.reps
  have k2 := ht.res.events
  have k3 := ht.res.each
  have k4 := ht.res.ask
  have hg := fun (B : List Blk) (e : Ev) (he : FEv e) => tGranted (hG.up B) e he
  have hno := fun lent => tNothing lent t.res.ask k4
  obtain ⟨kind, at_, args, fuel, reps, fin, rat, val, fault, used, nrep, events, ask⟩ := t
  dsimp only at k1 k2 k3 k4 hno ⊢
  apply he_64
  simp only [toldF, finF, usedF, faultF, countF, askF]
  by_cases hA : fin.toNat ≤ 4
  case neg => simp (disch := omega) [if_pos, if_neg, iteK_pos, iteK_neg, Tryz.f64, V.upIf, hA]
  by_cases hB : fin.toNat = 1 ∨ val = 0
  case neg =>
    have b1 : ¬ fin.toNat = 1 := fun e => hB (.inl e)
    have b2 : ¬ val = 0 := fun e => hB (.inr e)
    have b3 := u32_zero b2
    simp (disch := omega) [if_pos, if_neg, iteK_pos, iteK_neg, Tryz.f64, V.upIf, hA, b1, b2, b3]
  by_cases hC : 0 ≤ used
  case neg =>
    by_cases b1 : fin.toNat = 1
    · simp (disch := omega) [if_pos, if_neg, iteK_pos, iteK_neg, Tryz.f64, V.upIf, hA, b1, hC]
    · have b2 : val = 0 := hB.resolve_left b1
      simp (disch := omega) [if_pos, if_neg, iteK_pos, iteK_neg, Tryz.f64, V.upIf, hA, b1, b2, hC]
  by_cases hD : used ≤ fuel
  case neg =>
    by_cases b1 : fin.toNat = 1
    · simp (disch := omega) [if_pos, if_neg, iteK_pos, iteK_neg, Tryz.f64, V.upIf, hA, b1, hC, hD]
    · have b2 : val = 0 := hB.resolve_left b1
      simp (disch := omega) [if_pos, if_neg, iteK_pos, iteK_neg, Tryz.f64, V.upIf, hA, b1, b2, hC, hD]
  by_cases hF : if fin.toNat = 2 then 1 ≤ fault.toNat ∧ fault.toNat ≤ 8 else fault = 0
  case neg =>
    by_cases c1 : fin.toNat = 2
    · have b2 : val = 0 := hB.resolve_left (by omega)
      rw [if_pos c1] at hF
      by_cases c2 : 1 ≤ fault.toNat
      · have c3 : ¬ fault.toNat ≤ 8 := fun e => hF ⟨c2, e⟩
        have c4 : ¬ fault.toNat = 0 := by omega
        simp (disch := omega) [if_pos, if_neg, iteK_pos, iteK_neg, Tryz.f64, V.upIf, hA, c1, b2, hC, hD, c2, c3, c4]
      · have c4 : fault.toNat = 0 := by omega
        simp (disch := omega) [if_pos, if_neg, iteK_pos, iteK_neg, Tryz.f64, V.upIf, hA, c1, b2, hC, hD, c2, c4]
    · rw [if_neg c1] at hF
      have c2 := u8_zero hF
      by_cases b1 : fin.toNat = 1
      · simp (disch := omega) [if_pos, if_neg, iteK_pos, iteK_neg, Tryz.f64, V.upIf, hA, b1, hC, hD, hF, c2]
      · have b2 : val = 0 := hB.resolve_left b1
        simp (disch := omega) [if_pos, if_neg, iteK_pos, iteK_neg, Tryz.f64, V.upIf, hA, b1, b2, c1, hC, hD, hF, c2]
  have hcase : (fin.toNat = 1 ∧ fault = 0) ∨ (fin.toNat = 2 ∧ val = 0 ∧ 1 ≤ fault.toNat ∧ fault.toNat ≤ 8) ∨ (¬ fin.toNat = 1 ∧ ¬ fin.toNat = 2 ∧ val = 0 ∧ fault = 0) := by
    by_cases c1 : fin.toNat = 2
    · rw [if_pos c1] at hF
      exact .inr (.inl ⟨c1, hB.resolve_left (by omega), hF⟩)
    · rw [if_neg c1] at hF
      by_cases b1 : fin.toNat = 1
      · exact .inl ⟨b1, hF⟩
      · exact .inr (.inr ⟨b1, c1, hB.resolve_left b1, hF⟩)
  by_cases e1 : nrep = (events.length : Int)
  case neg =>
    rcases hcase with ⟨b1, b2⟩ | ⟨b1, b2, b3, b4⟩ | ⟨b1, b2, b3, b4⟩
    · simp (disch := omega) [if_pos, if_neg, iteK_pos, iteK_neg, Tryz.f64, V.upIf, hA, hC, hD, e1, b1, b2]
    · have b5 : ¬ fault.toNat = 0 := by omega
      simp (disch := omega) [if_pos, if_neg, iteK_pos, iteK_neg, Tryz.f64, V.upIf, hA, hC, hD, e1, b1, b2, b3, b4, b5]
    · simp (disch := omega) [if_pos, if_neg, iteK_pos, iteK_neg, Tryz.f64, V.upIf, hA, hC, hD, e1, b1, b2, b3, b4]
  subst e1
  by_cases e2 : events.length ≤ reps.length
  case neg =>
    rcases hcase with ⟨b1, b2⟩ | ⟨b1, b2, b3, b4⟩ | ⟨b1, b2, b3, b4⟩
    · simp (disch := omega) [if_pos, if_neg, iteK_pos, iteK_neg, Tryz.f64, V.upIf, hA, hC, hD, e2, b1, b2]
    · have b5 : ¬ fault.toNat = 0 := by omega
      simp (disch := omega) [if_pos, if_neg, iteK_pos, iteK_neg, Tryz.f64, V.upIf, hA, hC, hD, e2, b1, b2, b3, b4, b5]
    · simp (disch := omega) [if_pos, if_neg, iteK_pos, iteK_neg, Tryz.f64, V.upIf, hA, hC, hD, e2, b1, b2, b3, b4]
  by_cases e3 : (events.length : Int) ≤ used
  case neg =>
    rcases hcase with ⟨b1, b2⟩ | ⟨b1, b2, b3, b4⟩ | ⟨b1, b2, b3, b4⟩
    · simp (disch := omega) [if_pos, if_neg, iteK_pos, iteK_neg, Tryz.f64, V.upIf, hA, hC, hD, e2, e3, b1, b2]
    · have b5 : ¬ fault.toNat = 0 := by omega
      simp (disch := omega) [if_pos, if_neg, iteK_pos, iteK_neg, Tryz.f64, V.upIf, hA, hC, hD, e2, e3, b1, b2, b3, b4, b5]
    · simp (disch := omega) [if_pos, if_neg, iteK_pos, iteK_neg, Tryz.f64, V.upIf, hA, hC, hD, e2, e3, b1, b2, b3, b4]
  generalize hR : eventsF gs reps events 0 = R
  rcases hcase with ⟨b1, b2⟩ | ⟨b1, b2, b3, b4⟩ | ⟨b1, b2, b3, b4⟩
  · simp (disch := omega) [if_pos, if_neg, iteK_pos, iteK_neg, Tryz.f64, V.upIf, hA, hC, hD, e2, e3, b1, b2]
    refine loop_chg (dyn := []) (fun n : Nat => [(82, ii n)]) (fun _ => []) (fun _ => [])
      (fun n => n ≤ events.length ∧ R = eventsF gs reps (events.drop n) n) (fun n => events.length - n) hint_64_0 (by kernel_rfl) ?_ 0 ⟨by simp, by simp [hR]⟩ (by simp)
    clear hR
    rintro n ⟨hn, hR⟩ IH
    rw [lpB_eq]
    by_cases hlt : n < events.length
    · have hq := fun (B : List Blk) => hg B events[n] (k3 _ (List.getElem_mem hlt))
      have hst := eventsF_step (gs := gs) (reps := reps) hlt (by omega)
      have k6 := (k3 _ (List.getElem_mem hlt)).args
      have hlr : n < reps.length := by omega
      cases hgr : grantedF gs events[n] with
      | false =>
        rw [hgr] at hst hq
        rw [hst] at hR
        clear IH
        simp (disch := omega) [if_pos, if_neg, iteK_pos, iteK_neg, hlt, hlr, hq, hR]
      | true =>
        rw [hgr] at hst hq
        by_cases hv : events[n].val = reps[n].val
        · have hv2 := eq_true hv
          simp (disch := omega) [if_pos, if_neg, iteK_pos, iteK_neg, hlt, hlr, hq, hv2]
          refine IH (n + 1) _ _ ⟨by omega, ?_⟩ (by omega) (by simp)
          rw [hR, hst, hv]; simp
        · have hv' := u32_ne hv
          have hst' : eventsF gs reps (List.drop n events) n = false := by rw [hst]; simp [hv]
          rw [hst'] at hR
          clear IH
          simp (disch := omega) [if_pos, if_neg, iteK_pos, iteK_neg, hlt, hlr, hq, hv', hR]
    · obtain rfl : n = events.length := by omega
      have hR1 : R = true := by rw [hR]; exact eventsF_end (by omega)
      clear IH
      by_cases hr : fin.toNat = 4
      · have hq := fun (B : List Blk) => hg B ask k4
        first
        | (exfalso; omega)
        | cases hga : grantedF gs ask with
          | false =>
            rw [hga] at hq
            simp (disch := omega) [if_pos, if_neg, iteK_pos, iteK_neg, hlt, hr, hq, hR1, hga]
          | true =>
            rw [hga] at hq
            by_cases hv : ask.val = 0
            · have hv3 := eq_true hv
              have hv2 : (ask.val.toNat = 0) = True := eq_true (by rw [hv]; rfl)
              by_cases hl : events.length = reps.length
              · have hl2 := eq_true hl
                simp (disch := omega) [if_pos, if_neg, iteK_pos, iteK_neg, hlt, hr, hq, hR1, hga, hv2, hv3, hl2]
              · have hl2 := eq_false hl
                simp (disch := omega) [if_pos, if_neg, iteK_pos, iteK_neg, hlt, hr, hq, hR1, hga, hv2, hv3, hl2]
            · have hv' := u32_zero hv
              simp (disch := omega) [if_pos, if_neg, iteK_pos, iteK_neg, hlt, hr, hq, hR1, hga, hv, hv']
      · simp (disch := omega) [if_pos, if_neg, iteK_pos, iteK_neg, hlt, hr, hno, hR1]
  · have b5 : ¬ fault.toNat = 0 := by omega
    simp (disch := omega) [if_pos, if_neg, iteK_pos, iteK_neg, Tryz.f64, V.upIf, hA, hC, hD, e2, e3, b1, b2, b3, b4, b5]
    refine loop_chg (dyn := []) (fun n : Nat => [(82, ii n)]) (fun _ => []) (fun _ => [])
      (fun n => n ≤ events.length ∧ R = eventsF gs reps (events.drop n) n) (fun n => events.length - n) hint_64_0 (by kernel_rfl) ?_ 0 ⟨by simp, by simp [hR]⟩ (by simp)
    clear hR
    rintro n ⟨hn, hR⟩ IH
    rw [lpB_eq]
    by_cases hlt : n < events.length
    · have hq := fun (B : List Blk) => hg B events[n] (k3 _ (List.getElem_mem hlt))
      have hst := eventsF_step (gs := gs) (reps := reps) hlt (by omega)
      have k6 := (k3 _ (List.getElem_mem hlt)).args
      have hlr : n < reps.length := by omega
      cases hgr : grantedF gs events[n] with
      | false =>
        rw [hgr] at hst hq
        rw [hst] at hR
        clear IH
        simp (disch := omega) [if_pos, if_neg, iteK_pos, iteK_neg, hlt, hlr, hq, hR]
      | true =>
        rw [hgr] at hst hq
        by_cases hv : events[n].val = reps[n].val
        · have hv2 := eq_true hv
          simp (disch := omega) [if_pos, if_neg, iteK_pos, iteK_neg, hlt, hlr, hq, hv2]
          refine IH (n + 1) _ _ ⟨by omega, ?_⟩ (by omega) (by simp)
          rw [hR, hst, hv]; simp
        · have hv' := u32_ne hv
          have hst' : eventsF gs reps (List.drop n events) n = false := by rw [hst]; simp [hv]
          rw [hst'] at hR
          clear IH
          simp (disch := omega) [if_pos, if_neg, iteK_pos, iteK_neg, hlt, hlr, hq, hv', hR]
    · obtain rfl : n = events.length := by omega
      have hR1 : R = true := by rw [hR]; exact eventsF_end (by omega)
      clear IH
      by_cases hr : fin.toNat = 4
      · have hq := fun (B : List Blk) => hg B ask k4
        first
        | (exfalso; omega)
        | cases hga : grantedF gs ask with
          | false =>
            rw [hga] at hq
            simp (disch := omega) [if_pos, if_neg, iteK_pos, iteK_neg, hlt, hr, hq, hR1, hga]
          | true =>
            rw [hga] at hq
            by_cases hv : ask.val = 0
            · have hv3 := eq_true hv
              have hv2 : (ask.val.toNat = 0) = True := eq_true (by rw [hv]; rfl)
              by_cases hl : events.length = reps.length
              · have hl2 := eq_true hl
                simp (disch := omega) [if_pos, if_neg, iteK_pos, iteK_neg, hlt, hr, hq, hR1, hga, hv2, hv3, hl2]
              · have hl2 := eq_false hl
                simp (disch := omega) [if_pos, if_neg, iteK_pos, iteK_neg, hlt, hr, hq, hR1, hga, hv2, hv3, hl2]
            · have hv' := u32_zero hv
              simp (disch := omega) [if_pos, if_neg, iteK_pos, iteK_neg, hlt, hr, hq, hR1, hga, hv, hv']
      · simp (disch := omega) [if_pos, if_neg, iteK_pos, iteK_neg, hlt, hr, hno, hR1]
  · simp (disch := omega) [if_pos, if_neg, iteK_pos, iteK_neg, Tryz.f64, V.upIf, hA, hC, hD, e2, e3, b1, b2, b3, b4]
    refine loop_chg (dyn := []) (fun n : Nat => [(82, ii n)]) (fun _ => []) (fun _ => [])
      (fun n => n ≤ events.length ∧ R = eventsF gs reps (events.drop n) n) (fun n => events.length - n) hint_64_0 (by kernel_rfl) ?_ 0 ⟨by simp, by simp [hR]⟩ (by simp)
    clear hR
    rintro n ⟨hn, hR⟩ IH
    rw [lpB_eq]
    by_cases hlt : n < events.length
    · have hq := fun (B : List Blk) => hg B events[n] (k3 _ (List.getElem_mem hlt))
      have hst := eventsF_step (gs := gs) (reps := reps) hlt (by omega)
      have k6 := (k3 _ (List.getElem_mem hlt)).args
      have hlr : n < reps.length := by omega
      cases hgr : grantedF gs events[n] with
      | false =>
        rw [hgr] at hst hq
        rw [hst] at hR
        clear IH
        simp (disch := omega) [if_pos, if_neg, iteK_pos, iteK_neg, hlt, hlr, hq, hR]
      | true =>
        rw [hgr] at hst hq
        by_cases hv : events[n].val = reps[n].val
        · have hv2 := eq_true hv
          simp (disch := omega) [if_pos, if_neg, iteK_pos, iteK_neg, hlt, hlr, hq, hv2]
          refine IH (n + 1) _ _ ⟨by omega, ?_⟩ (by omega) (by simp)
          rw [hR, hst, hv]; simp
        · have hv' := u32_ne hv
          have hst' : eventsF gs reps (List.drop n events) n = false := by rw [hst]; simp [hv]
          rw [hst'] at hR
          clear IH
          simp (disch := omega) [if_pos, if_neg, iteK_pos, iteK_neg, hlt, hlr, hq, hv', hR]
    · obtain rfl : n = events.length := by omega
      have hR1 : R = true := by rw [hR]; exact eventsF_end (by omega)
      clear IH
      by_cases hr : fin.toNat = 4
      · have hq := fun (B : List Blk) => hg B ask k4
        first
        | (exfalso; omega)
        | cases hga : grantedF gs ask with
          | false =>
            rw [hga] at hq
            simp (disch := omega) [if_pos, if_neg, iteK_pos, iteK_neg, hlt, hr, hq, hR1, hga]
          | true =>
            rw [hga] at hq
            by_cases hv : ask.val = 0
            · have hv3 := eq_true hv
              have hv2 : (ask.val.toNat = 0) = True := eq_true (by rw [hv]; rfl)
              by_cases hl : events.length = reps.length
              · have hl2 := eq_true hl
                simp (disch := omega) [if_pos, if_neg, iteK_pos, iteK_neg, hlt, hr, hq, hR1, hga, hv2, hv3, hl2]
              · have hl2 := eq_false hl
                simp (disch := omega) [if_pos, if_neg, iteK_pos, iteK_neg, hlt, hr, hq, hR1, hga, hv2, hv3, hl2]
            · have hv' := u32_zero hv
              simp (disch := omega) [if_pos, if_neg, iteK_pos, iteK_neg, hlt, hr, hq, hR1, hga, hv, hv']
      · simp (disch := omega) [if_pos, if_neg, iteK_pos, iteK_neg, hlt, hr, hno, hR1]
end Go.Proofs.YtijfffbhhlmgmaaGreatDoor
end
