/-
  Which takes may be: tape.empty, tape.takes.
  gate.New.
  tape.Check.
-/
import Derived.Test.YtijfffbhhlmgmaaGreatDoorVq
section
namespace Go.Proofs.YtijfffbhhlmgmaaGreatDoor
open Go Go.Sim Go.Sim.Tape
set_option maxRecDepth 100000
set_option maxHeartbeats 0
set_option linter.unusedSimpArgs false
set_option linter.unusedVariables false

theorem tEmpty (lent) (r : Rs) (hr : FRs r) : pureV E (om E) 62 lent [rsV r] = some (bb (emptyF r)) := by
  have k := hr.events
  have hno := fun lent => tNothing lent r.ask hr.ask
  apply pu_62
  unfold emptyF
  generalize nothF r.ask = N at hno ⊢
  by_cases h1 : r.fin = 0
  case neg =>
    have h := u8_zero h1
    simp (disch := omega) [if_pos, if_neg, iteK_pos, iteK_neg, Tryz.f62, h1, h]
  by_cases h2 : r.at_ = 0
  case neg =>
    have h := u32_zero h2
    simp (disch := omega) [if_pos, if_neg, iteK_pos, iteK_neg, Tryz.f62, h1, h2, h]
  by_cases h3 : r.val = 0
  case neg =>
    have h := u32_zero h3
    simp (disch := omega) [if_pos, if_neg, iteK_pos, iteK_neg, Tryz.f62, h1, h2, h3, h]
  by_cases h4 : r.fault = 0
  case neg =>
    have h := u8_zero h4
    simp (disch := omega) [if_pos, if_neg, iteK_pos, iteK_neg, Tryz.f62, h1, h2, h3, h4, h]
  by_cases h5 : r.used = 0
  case neg => simp (disch := omega) [if_pos, if_neg, iteK_pos, iteK_neg, Tryz.f62, h1, h2, h3, h4, h5]
  by_cases h6 : r.nrep = 0
  case neg => simp (disch := omega) [if_pos, if_neg, iteK_pos, iteK_neg, Tryz.f62, h1, h2, h3, h4, h5, h6]
  by_cases h7 : r.events = []
  case neg =>
    have h := len_zero h7
    simp (disch := omega) [if_pos, if_neg, iteK_pos, iteK_neg, Tryz.f62, h1, h2, h3, h4, h5, h6, h7, h]
  simp (disch := omega) [if_pos, if_neg, iteK_pos, iteK_neg, Tryz.f62, h1, h2, h3, h4, h5, h6, h7, hno]
theorem tTakes {h : Heap} {d j : Nat} {gs : List Gr} (hG : GateAt h d j gs) (t : Tk) (ht : FTk t) : callV E (om E) 43 [.pref d j 0 0, takeV t] h = some (.bool (takesF gs t), h) := by
  have k0 := ht.args
  have k1 := ht.reps
  have k3 := ht.each
  have hto := fun (B : List Blk) => tTold (hG.up B) t ht
  have hem := fun lent => tEmpty lent t.res ht.res
  apply he_43
  unfold takesF
  by_cases h1 : t.kind.toNat = 1
  · by_cases a1 : t.args.length ≤ 15
    case neg => simp (disch := omega) [if_pos, if_neg, iteK_pos, iteK_neg, Tryz.f43, V.upIf, h1, a1]
    by_cases a2 : t.fuel = 0
    case neg => simp (disch := omega) [if_pos, if_neg, iteK_pos, iteK_neg, Tryz.f43, V.upIf, h1, a1, a2]
    by_cases a3 : t.reps = []
    case neg =>
      have h := len_zero a3
      simp (disch := omega) [if_pos, if_neg, iteK_pos, iteK_neg, Tryz.f43, V.upIf, h1, a1, a2, a3, h]
    simp (disch := omega) [if_pos, if_neg, iteK_pos, iteK_neg, Tryz.f43, V.upIf, h1, a1, a2, a3, hem]
  by_cases h2 : t.kind.toNat = 2
  case neg => simp (disch := omega) [if_pos, if_neg, iteK_pos, iteK_neg, Tryz.f43, V.upIf, h1, h2]
  by_cases b1 : t.at_ = 0
  case neg =>
    have h := u32_zero b1
    simp (disch := omega) [if_pos, if_neg, iteK_pos, iteK_neg, Tryz.f43, V.upIf, h1, h2, b1, h]
  by_cases b2 : t.args = []
  case neg =>
    have h : 0 < t.args.length := List.length_pos_iff.2 b2
    simp (disch := omega) [if_pos, if_neg, iteK_pos, iteK_neg, Tryz.f43, V.upIf, h1, h2, b1, b2, h]
  by_cases b3 : 0 ≤ t.fuel
  case neg => simp (disch := omega) [if_pos, if_neg, iteK_pos, iteK_neg, Tryz.f43, V.upIf, h1, h2, b1, b2, b3]
  by_cases b4 : t.fuel ≤ 65536
  case neg => simp (disch := omega) [if_pos, if_neg, iteK_pos, iteK_neg, Tryz.f43, V.upIf, h1, h2, b1, b2, b3, b4]
  have hkv : takeV t = .agg [.int .u8 2, .int .u32 0, .scon [] 0 0 false, .int .i64 t.fuel, lst eRp t.reps, u8V t.res.fin, u32V t.res.at_, u32V t.res.val, u8V t.res.fault, .int .i64 t.res.used, .int .i64 t.res.nrep, lst eEv t.res.events, u32V t.res.ask.at_, u32V t.res.ask.num, ws t.res.ask.args, u32V t.res.ask.val] := by
    simp only [takeV, b1, b2, u8V, h2]; rfl
  rw [hkv] at hto ⊢
  simp (disch := omega) [if_pos, if_neg, iteK_pos, iteK_neg, Tryz.f43, V.upIf, h1, h2, b1, b2, b3, b4]
  refine loop_chg (dyn := []) (fun n : Nat => [(55, ii n)]) (fun _ => []) (fun _ => [])
    (fun n => n ≤ t.reps.length ∧ ∀ r ∈ t.reps.take n, fitsF r = true) (fun n => t.reps.length - n) hint_43_0 (by kernel_rfl) ?_ 0 (by simp) (by simp)
  rintro n ⟨hn, hp⟩ IH
  rw [lpB_eq]
  by_cases hlt : n < t.reps.length
  · have hfi := fun lent => tFits lent t.reps[n] (k3 _ (List.getElem_mem hlt))
    cases hf : fitsF t.reps[n] with
    | true =>
      rw [hf] at hfi
      simp (disch := omega) [if_pos, if_neg, iteK_pos, iteK_neg, hlt, hfi]
      refine IH (n + 1) _ _ ⟨by omega, ?_⟩ (by omega) (by simp)
      rw [take_snoc hlt]
      intro w hw
      rcases List.mem_append.1 hw with hw | hw
      · exact hp w hw
      · obtain rfl := List.mem_singleton.1 hw
        exact hf
    | false =>
      have hA : t.reps.all fitsF = false := by
        rw [List.all_eq_false]
        exact ⟨_, List.getElem_mem hlt, by simp [hf]⟩
      rw [hf] at hfi
      clear IH
      simp (disch := omega) [if_pos, if_neg, iteK_pos, iteK_neg, hlt, hfi, hA]
  · have hA : t.reps.all fitsF = true := by
      rw [List.take_of_length_le (by omega)] at hp
      rw [List.all_eq_true]
      exact hp
    clear IH
    simp (disch := omega) [if_pos, if_neg, iteK_pos, iteK_neg, hlt, hto, hA]
end Go.Proofs.YtijfffbhhlmgmaaGreatDoor
end
section
namespace Go.Proofs.YtijfffbhhlmgmaaGreatDoor
open Go Go.Sim Go.Sim.Tape
set_option maxRecDepth 100000
set_option maxHeartbeats 0
set_option linter.unusedSimpArgs false
set_option linter.unusedVariables false

@[simp] theorem makeMap_none (h : Heap) : makeMapV h none = some (.mref 0 h.top.length, h.push (.mp [])) := rfl
theorem newL_step {gs : List Gr} {i : Nat} (h : i < gs.length) : newL (gs.take i) (gs.drop i) = ((grFind (gs.take i) gs[i].num).isNone && grOk gs[i] && newL (gs.take (i + 1)) (gs.drop (i + 1))) := by
  rw [List.drop_eq_getElem_cons h, newL, take_snoc h]
theorem newL_end {gs : List Gr} {i : Nat} (h : ¬ i < gs.length) : newL (gs.take i) (gs.drop i) = true := by
  rw [List.drop_of_length_le (by omega)]; rfl
def newG (gs : List Gr) : List Gr → List Blk
  | [] => []
  | x :: r => if (grFind gs x.num).isNone && grOk x then newG (gs ++ [x]) r else [.mp (gs.map grE), .row [.mref 0 0] 0 1 false false, .row [u32V x.num, .int .i64 x.args] 0 2 true true]
theorem newG_step {gs : List Gr} {i : Nat} (h : i < gs.length) : newG (gs.take i) (gs.drop i) = (if (grFind (gs.take i) gs[i].num).isNone && grOk gs[i] then newG (gs.take (i + 1)) (gs.drop (i + 1)) else
    [.mp ((gs.take i).map grE), .row [.mref 0 0] 0 1 false false, .row [u32V gs[i].num, .int .i64 gs[i].args] 0 2 true true]) := by
  rw [List.drop_eq_getElem_cons h, newG, take_snoc h]
theorem tNew_bad {gs : List Gr} (hl : ¬ gs.length ≤ 64) : bodyV E (om E) 42 [lst eGr gs] [[]] = some (.tuple [.nilptr, .int .i64 160], [[]]) := by
  apply bo_42
  simp (disch := omega) [if_pos, if_neg, iteK_pos, iteK_neg, Tryz.f42, hl]
theorem tNew_no {gs : List Gr} (hl : gs.length ≤ 64) (hb : newL [] gs = false) : bodyV E (om E) 42 [lst eGr gs] [[]] = some (.tuple [.nilptr, .int .i64 160], [newG [] gs]) := by
  generalize hX : newG [] gs = X
  apply bo_42
  simp (disch := omega) [if_pos, if_neg, iteK_pos, iteK_neg, Tryz.f42, hl]
  refine loop_chg (dyn := []) (fun n : Nat => [(17, ii n)]) (fun n => [(0, 0, .mp ((gs.take n).map grE))]) (fun _ => [])
    (fun n => n ≤ gs.length ∧ newL (gs.take n) (gs.drop n) = false ∧ newG (gs.take n) (gs.drop n) = X) (fun n => gs.length - n) hint_42_0 (by kernel_rfl) ?_ 0 (by simp [hb, hX]) (by simp)
  clear hb hX
  rintro n ⟨hn, hb, hX⟩ IH
  rw [lpB_eq]
  by_cases hlt : n < gs.length
  case neg => rw [newL_end hlt] at hb; cases hb
  rw [newL_step hlt] at hb
  rw [newG_step hlt] at hX
  have hlk := fun (B : List Blk) => look_gr (h := (.mp ((gs.take n).map grE) :: .row [.mref 0 0] 0 1 false false :: B) :: []) (d := 0) (j := 0) (gs := gs.take n) rfl gs[n].num
  have hpt := fun (B : List Blk) => put_gr (h := (.mp ((gs.take n).map grE) :: .row [.mref 0 0] 0 1 false false :: B) :: []) (d := 0) (j := 0) (gs := gs.take n) rfl gs[n]
  have htk := take_snoc hlt
  generalize gs.take n = G at hb hX hlk hpt htk IH ⊢
  cases hf : grFind G gs[n].num with
  | some g =>
    rw [hf] at hb hX hlk
    clear IH hpt
    simp only [Option.isNone_some, Bool.false_and, Bool.false_eq_true, if_false] at hX
    simp (disch := omega) [if_pos, if_neg, iteK_pos, iteK_neg, hlt, hlk, ← hX]
  | none =>
    rw [hf] at hb hX hlk
    have hpt := fun B => hpt B hf
    by_cases h1 : gs[n].num.toNat ≤ 2147483647
    case neg =>
      have hO : grOk gs[n] = false := by simp only [grOk, decide_eq_false_iff_not]; omega
      rw [hO] at hX
      simp only [Option.isNone_none, Bool.and_false, Bool.false_eq_true, if_false] at hX
      clear IH hpt
      simp (disch := omega) [if_pos, if_neg, iteK_pos, iteK_neg, hlt, hlk, h1, ← hX]
    by_cases h2 : 0 ≤ gs[n].args
    case neg =>
      have hO : grOk gs[n] = false := by simp only [grOk, decide_eq_false_iff_not]; omega
      rw [hO] at hX
      simp only [Option.isNone_none, Bool.and_false, Bool.false_eq_true, if_false] at hX
      clear IH hpt
      simp (disch := omega) [if_pos, if_neg, iteK_pos, iteK_neg, hlt, hlk, h1, h2, ← hX]
    by_cases h3 : gs[n].args ≤ 15
    case neg =>
      have hO : grOk gs[n] = false := by simp only [grOk, decide_eq_false_iff_not]; omega
      rw [hO] at hX
      simp only [Option.isNone_none, Bool.and_false, Bool.false_eq_true, if_false] at hX
      clear IH hpt
      simp (disch := omega) [if_pos, if_neg, iteK_pos, iteK_neg, hlt, hlk, h1, h2, h3, ← hX]
    have hO : grOk gs[n] = true := by simp only [grOk, decide_eq_true_eq]; omega
    rw [hO] at hX hb
    simp only [Option.isNone_none, Bool.and_true, Bool.true_and, if_true] at hX hb
    simp (disch := omega) [if_pos, if_neg, iteK_pos, iteK_neg, hlt, hlk, hpt, h1, h2, h3]
    refine IH (n + 1) _ _ ⟨by omega, hb, hX⟩ (by omega) (by simp [htk])
theorem tNew_ok {gs : List Gr} (hl : gs.length ≤ 64) (hb : newL [] gs = true) : bodyV E (om E) 42 [lst eGr gs] [[]] = some (.tuple [.pref 0 1 0 0, .int .i64 0], [[.mp (gs.map grE), .row [.mref 0 0] 0 1 false false]]) := by
  apply bo_42
  simp (disch := omega) [if_pos, if_neg, iteK_pos, iteK_neg, Tryz.f42, hl]
  refine loop_chg (dyn := []) (fun n : Nat => [(17, ii n)]) (fun n => [(0, 0, .mp ((gs.take n).map grE))]) (fun _ => [])
    (fun n => n ≤ gs.length ∧ newL (gs.take n) (gs.drop n) = true) (fun n => gs.length - n) hint_42_0 (by kernel_rfl) ?_ 0 (by simp [hb]) (by simp)
  clear hb
  rintro n ⟨hn, hb⟩ IH
  rw [lpB_eq]
  by_cases hlt : n < gs.length
  case neg =>
    clear IH
    have : gs.take n = gs := List.take_of_length_le (by omega)
    rw [this]
    simp (disch := omega) [if_pos, if_neg, iteK_pos, iteK_neg, hlt]
  rw [newL_step hlt] at hb
  have hlk := fun (B : List Blk) => look_gr (h := (.mp ((gs.take n).map grE) :: .row [.mref 0 0] 0 1 false false :: B) :: []) (d := 0) (j := 0) (gs := gs.take n) rfl gs[n].num
  have hpt := fun (B : List Blk) => put_gr (h := (.mp ((gs.take n).map grE) :: .row [.mref 0 0] 0 1 false false :: B) :: []) (d := 0) (j := 0) (gs := gs.take n) rfl gs[n]
  have htk := take_snoc hlt
  generalize gs.take n = G at hb hlk hpt htk IH ⊢
  simp only [Bool.and_eq_true, Option.isNone_iff_eq_none] at hb
  obtain ⟨⟨hf, hO⟩, hb⟩ := hb
  rw [hf] at hlk
  have hpt := fun B => hpt B hf
  simp only [grOk, decide_eq_true_eq] at hO
  obtain ⟨h1, h2, h3⟩ := hO
  simp (disch := omega) [if_pos, if_neg, iteK_pos, iteK_neg, hlt, hlk, hpt, h1, h2, h3]
  refine IH (n + 1) _ _ ⟨by omega, hb⟩ (by omega) (by simp [htk])
theorem tNewC_ok {gs : List Gr} (hb : newF gs = true) (B : List Blk) (r : Heap) : callV E (om E) 42 [lst eGr gs] (B :: r) = some (.tuple [.pref 0 (B.length + 1) 0 0, .int .i64 0], (B ++ [.mp (gs.map grE), .row [.mref 0 B.length] 0 1 false false]) :: r) := by
  simp only [newF, Bool.and_eq_true, decide_eq_true_eq] at hb
  rw [call_42]
  have := tNew_ok hb.1 hb.2
  simp (disch := omega) [if_pos, if_neg, iteK_pos, iteK_neg, this]
theorem tNewC_no {gs : List Gr} (hb : newF gs = false) (B : List Blk) (r : Heap) : ∃ X : List Blk, callV E (om E) 42 [lst eGr gs] (B :: r) = some (.tuple [.nilptr, .int .i64 160], (B ++ X) :: r) := by
  rw [call_42]
  by_cases hl : gs.length ≤ 64
  · have h2 : newL [] gs = false := by
      cases h : newL [] gs with
      | false => rfl
      | true => simp [newF, hl, h] at hb
    have := tNew_no hl h2
    exact ⟨_, by simp (disch := omega) [if_pos, if_neg, iteK_pos, iteK_neg, this]; rfl⟩
  · have := tNew_bad hl
    exact ⟨[], by simp (disch := omega) [if_pos, if_neg, iteK_pos, iteK_neg, this]⟩
end Go.Proofs.YtijfffbhhlmgmaaGreatDoor
end
section
namespace Go.Proofs.YtijfffbhhlmgmaaGreatDoor
open Go Go.Sim Go.Sim.Tape
set_option maxRecDepth 100000
set_option maxHeartbeats 0
set_option linter.unusedSimpArgs false
set_option linter.unusedVariables false

theorem rising_step {gs : List Gr} {n : Nat} (h : n + 1 < gs.length) : risingL (gs.drop n) = (decide (gs[n].num.toNat < gs[n + 1].num.toNat) && risingL (gs.drop (n + 1))) := by
  rw [List.drop_eq_getElem_cons (by omega : n < gs.length), List.drop_eq_getElem_cons h, risingL]
theorem rising_end {gs : List Gr} {n : Nat} (h : ¬ n + 1 < gs.length) : risingL (gs.drop n) = true := by
  by_cases hn : n < gs.length
  · rw [List.drop_eq_getElem_cons hn, List.drop_of_length_le (by omega)]; rfl
  · rw [List.drop_of_length_le (by omega)]; rfl
theorem check_step {gs : List Gr} {ks : List Tk} {n c : Nat} (h : n < ks.length) : checkL gs (ks.drop n) n c =
    if takesF gs ks[n] then (if c + ks[n].reps.length ≤ 1024 then checkL gs (ks.drop (n + 1)) (n + 1) (c + ks[n].reps.length) else ((n : Nat), 273)) else ((n : Nat), 270) := by
  rw [List.drop_eq_getElem_cons h, checkL]
theorem check_end {gs : List Gr} {ks : List Tk} {n c : Nat} (h : ¬ n < ks.length) : checkL gs (ks.drop n) n c = (0, 0) := by
  rw [List.drop_of_length_le (by omega)]; rfl
abbrev chkV (p : Int × Nat) : V := .tuple [.int .i64 p.1, ii p.2]
theorem tCheck (lent) (t : Tp) (ht : FTp t) : pureV E (om E) 24 lent [.agg [u64V t.module, lst eGr t.grants, lst eTk t.takes]] = some (chkV (checkF t)) := by
  have k1 := ht.grants
  have k2 := ht.takes
  have k3 := ht.each
  obtain ⟨m, gs, ks⟩ := t
  dsimp only at k1 k2 k3 ⊢
  apply pu_24
  cases hb : newF gs with
  | false =>
    obtain ⟨X, hX⟩ := tNewC_no hb [.row [u64V m, lst eGr gs, lst eTk ks] 0 3 true false] []
    simp (disch := omega) [if_pos, if_neg, iteK_pos, iteK_neg, Tryz.f24, hX, checkF, hb]
  | true =>
    have hN := fun (B : List Blk) => tNewC_ok hb B []
    generalize hR : risingL gs = R
    have hG : ∀ B, GateAt ((.row [u64V m, lst eGr gs, lst eTk ks] 0 3 true false :: .mp (gs.map grE) :: .row [.mref 0 1] 0 1 false false :: B) :: []) 0 2 gs := fun B => ⟨1, rfl, rfl⟩
    generalize hC : checkF ⟨m, gs, ks⟩ = C
    simp (disch := omega) [if_pos, if_neg, iteK_pos, iteK_neg, Tryz.f24, hN]
    refine loop_chg (dyn := []) (fun n : Nat => [(6, .int .i64 ((n : Int) + 1))]) (fun _ => []) (fun _ => [])
      (fun n => n ≤ gs.length ∧ R = risingL (gs.drop n)) (fun n => gs.length - n) hint_24_0 (by kernel_rfl) ?_ 0 (by simp [hR]) (by simp)
    rintro n ⟨hn, hr⟩ IH
    rw [lpB_eq]
    by_cases hlt : n + 1 < gs.length
    · rw [rising_step hlt] at hr
      have hlt' : n < gs.length := by omega
      by_cases hc : gs[n].num.toNat < gs[n + 1].num.toNat
      · simp (disch := omega) [if_pos, if_neg, iteK_pos, iteK_neg, hlt, hlt', hc]
        refine IH (n + 1) _ _ ⟨by omega, ?_⟩ (by omega) (by simp)
        rw [hr]; simp [hc]
      · have hR0 : R = false := by rw [hr]; simp [hc]
        clear IH
        simp only [checkF, hb, hR, hR0, Bool.and_false, Bool.false_eq_true, if_false] at hC
        simp (disch := omega) [if_pos, if_neg, iteK_pos, iteK_neg, hlt, hlt', hc, ← hC]
    · have hR1 : R = true := by rw [hr]; exact rising_end hlt
      clear IH
      simp only [checkF, hb, hR, hR1, Bool.and_true, if_true] at hC
      by_cases hk : ks.length ≤ 256
      case neg =>
        rw [if_neg hk] at hC
        simp (disch := omega) [if_pos, if_neg, iteK_pos, iteK_neg, hlt, hk, ← hC]
      rw [if_pos hk] at hC
      simp (disch := omega) [if_pos, if_neg, iteK_pos, iteK_neg, hlt, hk]
      refine loop_chg (dyn := []) (fun s : Nat × Nat => [(46, ii s.1), (7, ii s.2)]) (fun _ => []) (fun _ => [])
        (fun s => s.1 ≤ ks.length ∧ s.2 ≤ 1024 ∧ C = checkL gs (ks.drop s.1) s.1 s.2) (fun s => ks.length - s.1) hint_24_1 (by kernel_rfl) ?_ (0, 0) (by simp [hC]) (by simp)
      clear hC
      rintro ⟨i, c⟩ ⟨hi, hc, hC⟩ IH
      dsimp only at hi hc hC
      rw [lpB_eq]
      by_cases hil : i < ks.length
      · rw [check_step hil] at hC
        have hT := fun B => tTakes (hG B) ks[i] (k3 _ (List.getElem_mem hil))
        have hrl := (k3 _ (List.getElem_mem hil)).reps
        cases htk : takesF gs ks[i] with
        | false =>
          rw [htk] at hT hC
          simp only [Bool.false_eq_true, if_false] at hC
          clear IH
          simp (disch := omega) [if_pos, if_neg, iteK_pos, iteK_neg, hil, hT, hC]
        | true =>
          rw [htk] at hT hC
          simp only [if_true] at hC
          by_cases hs : c + ks[i].reps.length ≤ 1024
          · rw [if_pos hs] at hC
            simp (disch := omega) [if_pos, if_neg, iteK_pos, iteK_neg, hil, hT, hs]
            refine IH (i + 1, c + ks[i].reps.length) _ _ ⟨by dsimp only; omega, by dsimp only; omega, hC⟩ (by dsimp only; omega) (by simp)
          · rw [if_neg hs] at hC
            clear IH
            simp (disch := omega) [if_pos, if_neg, iteK_pos, iteK_neg, hil, hT, hs, hC]
      · rw [check_end hil] at hC
        clear IH
        simp (disch := omega) [if_pos, if_neg, iteK_pos, iteK_neg, hil, hC]
end Go.Proofs.YtijfffbhhlmgmaaGreatDoor
end
