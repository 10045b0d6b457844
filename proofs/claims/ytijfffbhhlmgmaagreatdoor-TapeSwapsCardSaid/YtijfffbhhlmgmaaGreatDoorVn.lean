/-
  copied: a tape without grants.
-/
import Derived.Test.YtijfffbhhlmgmaaGreatDoorVl
section
namespace Go.Proofs.YtijfffbhhlmgmaaGreatDoor
open Go Go.Sim Go.Sim.Tape
set_option maxRecDepth 100000
set_option maxHeartbeats 0
set_option linter.unusedSimpArgs false
set_option linter.unusedVariables false

theorem copied_none (m : UInt64) (ks : List Tk) (h2 : ks.length * 160 ≤ 140737488351232) (hf : ∀ k ∈ ks, FTk k) :
    bodyV E (om E) 7 [.agg [u64V m, lst eGr ([] : List Gr), lst eTk ks]] [[]] = some (.agg [u64V m, .nilslice, tkR 3 ks.length],
      [[.row [u64V m, lst eGr ([] : List Gr), lst eTk ks] 0 3 true false, .row [u64V m, .nilslice, tkR 3 ks.length] 0 3 false false, .row [u64V m, .nilslice, tkR 3 ks.length] 0 3 false false,
        .row (tkCs ks) ks.length 16 (decide (ks.length = 0)) (decide (ks.length = 0))]]) := by
  apply bo_7
  simp (disch := omega) [if_pos, if_neg, iteK_pos, iteK_neg, Tryz.f7]
  refine loop_chg (dyn := []) (fun (p : Nat) => [(4, ii p)]) (fun p => [(0, 2, .row [u64V m, .nilslice, tkR 3 p] 0 3 false false)]) (fun p => [.row (tkCs (ks.take p)) p 16 (decide (p = 0)) (decide (p = 0))])
    (fun p => p ≤ ks.length) (fun p => ks.length - p) hint_7_0 (by kernel_rfl) ?_ 0 (by simp) (by simp [tkCs])
  rintro i hi IH
  rw [lpB_eq]
  dsimp only
  have hRl : i = ks.length → tkCs (ks.take i) = tkCs ks := fun h => by rw [h, List.take_length]
  have hR := tkCs_lk (ks.take i)
  have hRn := fun (h : i < ks.length) => tkCs_next h
  generalize tkCs (ks.take i) = R at hR hRn hRl IH ⊢
  generalize hfl : decide (i = 0) = fl at IH ⊢
  have hlen : R.length = i * 16 := by rw [hR.len, List.length_take, Nat.min_eq_left hi]; rfl
  have htake : R.take (i * 16) = R := List.take_of_length_le (by omega)
  have hflat := hR.flat
  have hok := hR.ok
  have hsR := hR.settle
  by_cases hil : i < ks.length
  · have hk := hf ks[i] (List.getElem_mem _)
    have k1 := hk.args
    have k2 := hk.reps
    have k3 := hk.each
    have k4 := hk.res.events
    have k5 := hk.res.each
    have k6 := hk.res.ask.args
    by_cases ha : ks[i].args = []
    · skip
      have hw := fun (B : List Blk) (r : Heap) => words_at ks[i].args k1 B r
      have hwa := fun (B : List Blk) (r : Heap) => words_at ks[i].res.ask.args k6 B r
      obtain ⟨fr, hq⟩ : ∃ fr : Bool, ∀ (B : List Blk) (r : Heap), callV E (om E) 15 [lst eRp ks[i].reps] (B :: r) = some (.sref 0 B.length 0 ks[i].reps.length ks[i].reps.length (2, false), (B ++ [.row (rpCs ks[i].reps) ks[i].reps.length 2 fr fr]) :: r) := ⟨_, fun B r => replies_at ks[i].reps k2 k3 B r⟩
      have hsQ := (rpCs_lk ks[i].reps).settle
      have hvQ := fun (H : Heap) => (rpCs_lk ks[i].reps).views 48 H
      have hcQ := (rpCs_lk ks[i].reps).cut (n := ks[i].reps.length) (k := 2) rfl rfl
      simp (disch := omega) [if_pos, if_neg, iteK_pos, iteK_neg, hil, hw, hq, wordsB_len _ ha, wordsR_nil _ _ ha]
      refine loop_chg (dyn := []) (fun (p : Nat × Bool × Bool) => [(7, ii p.1)]) (fun p => [(0, 3, .row R i 16 fl fl), (0, 5, .row [u8V ks[i].kind, u32V ks[i].at_, .nilslice, .int .i64 ks[i].fuel, .sref 0 6 0 ks[i].reps.length ks[i].reps.length (2, false), u8V ks[i].res.fin, u32V ks[i].res.at_, u32V ks[i].res.val, u8V ks[i].res.fault, .int .i64 ks[i].res.used, .int .i64 ks[i].res.nrep, .sref 0 7 0 p.1 p.1 (4, false), u32V ks[i].res.ask.at_, u32V ks[i].res.ask.num, ws ks[i].res.ask.args, u32V ks[i].res.ask.val] 0 16 false false)]) (fun p => [.row (evCs (ks[i].res.events.take p.1)) p.1 4 p.2.1 p.2.2])
        (fun p => p.1 ≤ ks[i].res.events.length) (fun p => ks[i].res.events.length - p.1) hint_7_1 (by kernel_rfl) ?_ (0, true, true) (by simp) (by simp [evCs])
      rintro ⟨j, fl2, pl2⟩ hj IHj
      dsimp only at hj
      rw [lpB_eq]
      dsimp only
      have hR2 := evCs_lk (ks[i].res.events.take j)
      have hRn2 := fun (h : j < ks[i].res.events.length) => evCs_next h
      have hfull : j = ks[i].res.events.length → evCs (ks[i].res.events.take j) = evCs ks[i].res.events := fun h => by rw [h, List.take_length]
      generalize evCs (ks[i].res.events.take j) = R2 at hR2 hRn2 hfull ⊢
      have hlen2 : R2.length = j * 4 := by rw [hR2.len, List.length_take, Nat.min_eq_left hj]; rfl
      have htake2 : R2.take (j * 4) = R2 := List.take_of_length_le (by omega)
      have hflat2 := hR2.flat
      have hok2 := hR2.ok
      have hs2 := hR2.settle
      by_cases hjl : j < ks[i].res.events.length
      · clear IH
        have e1 := (k5 ks[i].res.events[j] (List.getElem_mem _)).args
        have hwe := fun (B : List Blk) (r : Heap) => words_at ks[i].res.events[j].args e1 B r
        by_cases he : ks[i].res.events[j].args = []
        · simp (disch := omega) [if_pos, if_neg, iteK_pos, iteK_neg, hil, hjl, hwe, wordsB_len _ he, wordsR_nil _ _ he, hlen2, htake2, hok2, hflat2, hsR, hs2, hsQ, settle_app]
          refine IHj (j + 1, fl2, fl2 && pl2) _ _ (by dsimp only; omega) (by dsimp only; omega) ?_
          simp [hRn2 hjl, evC, wordsC, he]
        · have hel : 0 < ks[i].res.events[j].args.length := by
            cases h : ks[i].res.events[j].args with
            | nil => exact absurd h he
            | cons _ _ => simp
          simp (disch := omega) [if_pos, if_neg, iteK_pos, iteK_neg, hil, hjl, hwe, wordsB_one _ he, wordsR_one _ _ he, hlen2, htake2, hok2, hflat2, hsR, hs2, hsQ, settle_app]
          refine IHj (j + 1, false, false) _ _ (by dsimp only; omega) (by dsimp only; omega) ?_
          simp [hRn2 hjl, evC, wordsC, he]
      · clear IHj
        obtain rfl : j = ks[i].res.events.length := by omega
        have hfull := hfull rfl
        have hvR2 := fun (H : Heap) => hR2.views 48 H
        have hcut := hR2.cut (n := ks[i].res.events.length) (k := 4) (by simp) rfl
        by_cases hx : ks[i].res.ask.args = []
        · simp (disch := omega) [if_pos, if_neg, iteK_pos, iteK_neg, hil, hjl, hwa, wordsB_len _ hx, wordsR_nil _ _ hx, hlen, htake, hok, hflat, hsR, hs2, hvR2, hcut, hsQ, hvQ, hcQ, settle_app]
          refine IH (i + 1) _ _ (by omega) (by omega) ?_
          simp [hRn hil, tkC, wordsC, ← hfull, hx, ha]
        · have hxl : 0 < ks[i].res.ask.args.length := by
            cases h : ks[i].res.ask.args with
            | nil => exact absurd h hx
            | cons _ _ => simp
          simp (disch := omega) [if_pos, if_neg, iteK_pos, iteK_neg, hil, hjl, hwa, wordsB_one _ hx, wordsR_one _ _ hx, hlen, htake, hok, hflat, hsR, hs2, hvR2, hcut, hsQ, hvQ, hcQ, settle_app]
          refine IH (i + 1) _ _ (by omega) (by omega) ?_
          simp [hRn hil, tkC, wordsC, ← hfull, hx, ha]
    · have hal : 0 < ks[i].args.length := by
        cases h : ks[i].args with
        | nil => exact absurd h ha
        | cons _ _ => simp
      have hw := fun (B : List Blk) (r : Heap) => words_at ks[i].args k1 B r
      have hwa := fun (B : List Blk) (r : Heap) => words_at ks[i].res.ask.args k6 B r
      obtain ⟨fr, hq⟩ : ∃ fr : Bool, ∀ (B : List Blk) (r : Heap), callV E (om E) 15 [lst eRp ks[i].reps] (B :: r) = some (.sref 0 B.length 0 ks[i].reps.length ks[i].reps.length (2, false), (B ++ [.row (rpCs ks[i].reps) ks[i].reps.length 2 fr fr]) :: r) := ⟨_, fun B r => replies_at ks[i].reps k2 k3 B r⟩
      have hsQ := (rpCs_lk ks[i].reps).settle
      have hvQ := fun (H : Heap) => (rpCs_lk ks[i].reps).views 48 H
      have hcQ := (rpCs_lk ks[i].reps).cut (n := ks[i].reps.length) (k := 2) rfl rfl
      simp (disch := omega) [if_pos, if_neg, iteK_pos, iteK_neg, hil, hw, hq, wordsB_one _ ha, wordsR_one _ _ ha]
      refine loop_chg (dyn := []) (fun (p : Nat × Bool × Bool) => [(7, ii p.1)]) (fun p => [(0, 3, .row R i 16 fl fl), (0, 5, .row [u8V ks[i].kind, u32V ks[i].at_, .sref 0 6 0 ks[i].args.length 0 (1, false), .int .i64 ks[i].fuel, .sref 0 7 0 ks[i].reps.length ks[i].reps.length (2, false), u8V ks[i].res.fin, u32V ks[i].res.at_, u32V ks[i].res.val, u8V ks[i].res.fault, .int .i64 ks[i].res.used, .int .i64 ks[i].res.nrep, .sref 0 8 0 p.1 p.1 (4, false), u32V ks[i].res.ask.at_, u32V ks[i].res.ask.num, ws ks[i].res.ask.args, u32V ks[i].res.ask.val] 0 16 false false)]) (fun p => [.row (evCs (ks[i].res.events.take p.1)) p.1 4 p.2.1 p.2.2])
        (fun p => p.1 ≤ ks[i].res.events.length) (fun p => ks[i].res.events.length - p.1) hint_7_1 (by kernel_rfl) ?_ (0, true, true) (by simp) (by simp [evCs])
      rintro ⟨j, fl2, pl2⟩ hj IHj
      dsimp only at hj
      rw [lpB_eq]
      dsimp only
      have hR2 := evCs_lk (ks[i].res.events.take j)
      have hRn2 := fun (h : j < ks[i].res.events.length) => evCs_next h
      have hfull : j = ks[i].res.events.length → evCs (ks[i].res.events.take j) = evCs ks[i].res.events := fun h => by rw [h, List.take_length]
      generalize evCs (ks[i].res.events.take j) = R2 at hR2 hRn2 hfull ⊢
      have hlen2 : R2.length = j * 4 := by rw [hR2.len, List.length_take, Nat.min_eq_left hj]; rfl
      have htake2 : R2.take (j * 4) = R2 := List.take_of_length_le (by omega)
      have hflat2 := hR2.flat
      have hok2 := hR2.ok
      have hs2 := hR2.settle
      by_cases hjl : j < ks[i].res.events.length
      · clear IH
        have e1 := (k5 ks[i].res.events[j] (List.getElem_mem _)).args
        have hwe := fun (B : List Blk) (r : Heap) => words_at ks[i].res.events[j].args e1 B r
        by_cases he : ks[i].res.events[j].args = []
        · simp (disch := omega) [if_pos, if_neg, iteK_pos, iteK_neg, hil, hjl, hwe, wordsB_len _ he, wordsR_nil _ _ he, hlen2, htake2, hok2, hflat2, hsR, hs2, hsQ, settle_app]
          refine IHj (j + 1, fl2, fl2 && pl2) _ _ (by dsimp only; omega) (by dsimp only; omega) ?_
          simp [hRn2 hjl, evC, wordsC, he]
        · have hel : 0 < ks[i].res.events[j].args.length := by
            cases h : ks[i].res.events[j].args with
            | nil => exact absurd h he
            | cons _ _ => simp
          simp (disch := omega) [if_pos, if_neg, iteK_pos, iteK_neg, hil, hjl, hwe, wordsB_one _ he, wordsR_one _ _ he, hlen2, htake2, hok2, hflat2, hsR, hs2, hsQ, settle_app]
          refine IHj (j + 1, false, false) _ _ (by dsimp only; omega) (by dsimp only; omega) ?_
          simp [hRn2 hjl, evC, wordsC, he]
      · clear IHj
        obtain rfl : j = ks[i].res.events.length := by omega
        have hfull := hfull rfl
        have hvR2 := fun (H : Heap) => hR2.views 48 H
        have hcut := hR2.cut (n := ks[i].res.events.length) (k := 4) (by simp) rfl
        by_cases hx : ks[i].res.ask.args = []
        · simp (disch := omega) [if_pos, if_neg, iteK_pos, iteK_neg, hil, hjl, hwa, wordsB_len _ hx, wordsR_nil _ _ hx, hlen, htake, hok, hflat, hsR, hs2, hvR2, hcut, hsQ, hvQ, hcQ, settle_app]
          refine IH (i + 1) _ _ (by omega) (by omega) ?_
          simp [hRn hil, tkC, wordsC, ← hfull, hx, ha]
        · have hxl : 0 < ks[i].res.ask.args.length := by
            cases h : ks[i].res.ask.args with
            | nil => exact absurd h hx
            | cons _ _ => simp
          simp (disch := omega) [if_pos, if_neg, iteK_pos, iteK_neg, hil, hjl, hwa, wordsB_one _ hx, wordsR_one _ _ hx, hlen, htake, hok, hflat, hsR, hs2, hvR2, hcut, hsQ, hvQ, hcQ, settle_app]
          refine IH (i + 1) _ _ (by omega) (by omega) ?_
          simp [hRn hil, tkC, wordsC, ← hfull, hx, ha]
  · clear IH
    obtain rfl : i = ks.length := by omega
    have hRe := hRl rfl
    subst hRe hfl
    simp (disch := omega) [if_pos, if_neg, iteK_pos, iteK_neg]
end Go.Proofs.YtijfffbhhlmgmaaGreatDoor
end
