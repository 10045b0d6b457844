/-
  The same events and replies in memory of their own: tape.eventOf, tape.repliesOf.
  The same results, takes and tapes in memory of their own: tape.resultOf, tape.takeOf, tape.tapeOf, tape.Cut.
-/
import Derived.Test.YtijfffbhhlmgmaaGreatDoorVr
import Derived.Test.YtijfffbhhlmgmaaGreatDoorVk
section
namespace Go.Proofs.YtijfffbhhlmgmaaGreatDoor
open Go Go.Sim Go.Sim.Tape
set_option maxRecDepth 100000
set_option maxHeartbeats 0
set_option linter.unusedSimpArgs false
set_option linter.unusedVariables false

theorem cl_ws (l : List UInt32) (h : Heap) : cloneCL 35184372088832 1 [ws l] h = if 35184372088832 < l.length then none else some (ws l, h) := cloneC_lst eU32 l h 1 rfl
theorem cl_bs (l : List UInt8) (h : Heap) : cloneCL 140737488355328 1 [bs l] h = if 140737488355328 < l.length then none else some (bs l, h) := cloneC_lst eU8 l h 1 rfl
theorem cl_gr (l : List Gr) (h : Heap) : cloneCL 8796093022208 2 [lst eGr l] h = if 8796093022208 < l.length then none else some (lst eGr l, h) := cloneC_lst eGr l h 2 rfl
theorem tEventOf (e : Ev) (he : FEv e) : pureV E (om E) 87 false [evV e] = some (evV e) := by
  have k := he.args
  apply pu_87
  simp (disch := omega) [if_pos, if_neg, iteK_pos, iteK_neg, Tryz.f87, cl_ws]
theorem lk_wr (l : List Wr) : Lk eWr l (cat eWr l) := lk_all eWr eWr.enc eWr.canon (fun _ => rfl) eWr.flat eWr.ok (fun _ => rfl) l
theorem lk_rp (l : List Rp) : Lk eRp l (cat eRp l) := lk_all eRp eRp.enc eRp.canon (fun _ => rfl) eRp.flat eRp.ok (fun _ => rfl) l
theorem lk_ev (l : List Ev) : Lk eEv l (cat eEv l) := lk_all eEv eEv.enc eEv.canon (fun _ => rfl) eEv.flat eEv.ok (fun _ => rfl) l
theorem lk_tk (l : List Tk) : Lk eTk l (cat eTk l) := lk_all eTk eTk.enc eTk.canon (fun _ => rfl) eTk.flat eTk.ok (fun _ => rfl) l
theorem cat_next {α : Type} (e : Enc α) {l : List α} {i : Nat} (h : i < l.length) : cat e (l.take (i + 1)) = cat e (l.take i) ++ e.enc l[i] := by rw [take_snoc h, cat_append]; simp [cat]
theorem tRepliesOf (l : List Rp) (hl : l.length * 32 ≤ 140737488351232) (hf : ∀ r ∈ l, FRp r) : pureV E (om E) 56 false [lst eRp l] = some (lst eRp l) := by
  apply pu_56
  simp (disch := omega) [if_pos, if_neg, iteK_pos, iteK_neg, Tryz.f56]
  refine loop_chg (dyn := [9]) (fun (p : Nat × Bool) => [(3, .sref 0 0 0 p.1 p.1 (2, false)), (11, ii p.1)]) (fun _ => []) (fun p => [.row (cat eRp (l.take p.1)) p.1 2 p.2 p.2])
    (fun p => p.1 ≤ l.length) (fun p => l.length - p.1) hint_56_0 (by kernel_rfl) ?_ (0, true) (by simp) (by simp)
  rintro ⟨i, fl⟩ hi IH
  dsimp only at hi
  rw [lpB_eq]
  dsimp only
  have hR := lk_rp (l.take i)
  have hRn := fun (h : i < l.length) => cat_next eRp h
  have hRl : i = l.length → cat eRp (l.take i) = cat eRp l := fun h => by rw [h, List.take_length]
  generalize cat eRp (l.take i) = R at hR hRn hRl IH ⊢
  have hlen : R.length = i * 2 := by rw [hR.len, List.length_take, Nat.min_eq_left hi]; rfl
  have htake : R.take (i * 2) = R := List.take_of_length_le (by omega)
  have hflat := hR.flat
  have hok := hR.ok
  have hsR := hR.settle
  by_cases hil : i < l.length
  · simp (disch := omega) [if_pos, if_neg, iteK_pos, iteK_neg, hil]
    have hrep := hf l[i] (List.getElem_mem _)
    have w1 := hrep.writes
    have w2 := hrep.each
    refine loop_chg (dyn := [9]) (fun (p : Nat × Bool × Bool) => [(6, .sref 0 2 0 p.1 p.1 (2, false)), (18, ii p.1)]) (fun _ => []) (fun p => [.row (cat eWr (l[i].writes.take p.1)) p.1 2 p.2.1 p.2.2])
      (fun p => p.1 ≤ l[i].writes.length) (fun p => l[i].writes.length - p.1) hint_56_1 (by kernel_rfl) ?_ (0, true, true) (by simp) (by simp)
    rintro ⟨j, fl2, pl2⟩ hj IHj
    dsimp only at hj
    rw [lpB_eq]
    dsimp only
    have hR2 := lk_wr (l[i].writes.take j)
    have hRn2 := fun (h : j < l[i].writes.length) => cat_next eWr h
    have hfull : j = l[i].writes.length → cat eWr (l[i].writes.take j) = cat eWr l[i].writes := fun h => by rw [h, List.take_length]
    generalize cat eWr (l[i].writes.take j) = R2 at hR2 hRn2 hfull IHj ⊢
    have hlen2 : R2.length = j * 2 := by rw [hR2.len, List.length_take, Nat.min_eq_left hj]; rfl
    have htake2 : R2.take (j * 2) = R2 := List.take_of_length_le (by omega)
    have hflat2 := hR2.flat
    have hok2 := hR2.ok
    have hs2 := hR2.settle
    by_cases hjl : j < l[i].writes.length
    · have hb := (w2 l[i].writes[j] (List.getElem_mem _)).bytes
      clear IH
      simp (disch := omega) [if_pos, if_neg, iteK_pos, iteK_neg, hjl, cl_bs, hlen2, htake2, hok2, hflat2]
      rw [iteK_pos (by kernel_rfl)]
      simp (disch := omega) [if_pos, if_neg, iteK_pos, iteK_neg, hjl, cl_bs, hlen2, htake2, hok2, hflat2, hsR, hs2, settle_app]
      refine IHj (j + 1, fl2, false) _ _ (by dsimp only; omega) (by dsimp only; omega) ?_
      simp [hRn2 hjl]
    · clear IHj
      obtain rfl : j = l[i].writes.length := by omega
      have hvR2 := fun (H : Heap) => hR2.views 48 H
      have hcut := hR2.cut (n := l[i].writes.length) (k := 2) (by simp) rfl
      have hfull := hfull rfl
      simp (disch := omega) [if_pos, if_neg, iteK_pos, iteK_neg, hil, hlen, htake, hok, hflat, hsR, hs2, hvR2, hcut, settle_app]
      refine IH (i + 1, false) _ _ (by dsimp only; omega) (by dsimp only; omega) ?_
      have hw : V.scon R2 0 l[i].writes.length false = lst eWr l[i].writes := by rw [hfull]; rfl
      simp [hRn hil, hw]
  · clear IH
    obtain rfl : i = l.length := by omega
    have hRe := hRl rfl
    subst hRe
    have hvR := fun (H : Heap) => hR.views 48 H
    simp (disch := omega) [if_pos, if_neg, iteK_pos, iteK_neg, hvR]
end Go.Proofs.YtijfffbhhlmgmaaGreatDoor
end
section
namespace Go.Proofs.YtijfffbhhlmgmaaGreatDoor
open Go Go.Sim Go.Sim.Tape
set_option maxRecDepth 100000
set_option maxHeartbeats 0
set_option linter.unusedSimpArgs false
set_option linter.unusedVariables false

theorem tResultOf (r : Rs) (hr : FRs r) : pureV E (om E) 57 false [rsV r] = some (rsV r) := by
  have k1 := hr.events
  have k2 := hr.each
  have hA := tEventOf r.ask hr.ask
  apply pu_57
  simp (disch := omega) [if_pos, if_neg, iteK_pos, iteK_neg, Tryz.f57]
  refine loop_chg (dyn := []) (fun (p : Nat × Bool) => [(3, .sref 0 2 0 p.1 p.1 (4, false)), (9, ii p.1)]) (fun _ => []) (fun p => [.row (cat eEv (r.events.take p.1)) p.1 4 true p.2])
    (fun p => p.1 ≤ r.events.length) (fun p => r.events.length - p.1) hint_57_0 (by kernel_rfl) ?_ (0, true) (by simp) (by simp)
  rintro ⟨i, pl⟩ hi IH
  dsimp only at hi
  rw [lpB_eq]
  dsimp only
  have hR := lk_ev (r.events.take i)
  have hRn := fun (h : i < r.events.length) => cat_next eEv h
  have hRl : i = r.events.length → cat eEv (r.events.take i) = cat eEv r.events := fun h => by rw [h, List.take_length]
  generalize cat eEv (r.events.take i) = R at hR hRn hRl IH ⊢
  have hlen : R.length = i * 4 := by rw [hR.len, List.length_take, Nat.min_eq_left hi]; rfl
  have htake : R.take (i * 4) = R := List.take_of_length_le (by omega)
  have hflat := hR.flat
  have hok := hR.ok
  have hsR := hR.settle
  by_cases hil : i < r.events.length
  · have hE := tEventOf r.events[i] (k2 _ (List.getElem_mem hil))
    simp (disch := omega) [if_pos, if_neg, iteK_pos, iteK_neg, hil, hE, hlen, htake, hok, hflat, hsR, settle_app]
    refine IH (i + 1, false) _ _ (by dsimp only; omega) (by dsimp only; omega) ?_
    simp [hRn hil]
  · clear IH
    obtain rfl : i = r.events.length := by omega
    have hRe := hRl rfl
    subst hRe
    have hvR := fun (H : Heap) => hR.views 48 H
    simp (disch := omega) [if_pos, if_neg, iteK_pos, iteK_neg, hil, hA, hvR]
theorem tTakeOf (t : Tk) (ht : FTk t) : pureV E (om E) 44 false [takeV t] = some (takeV t) := by
  have k1 := ht.args
  have hR := tRepliesOf t.reps ht.reps ht.each
  have hS := tResultOf t.res ht.res
  apply pu_44
  simp (disch := omega) [if_pos, if_neg, iteK_pos, iteK_neg, Tryz.f44, cl_ws, hR, hS]
  rw [iteK_pos (by kernel_rfl)]
  simp (disch := omega) [if_pos, if_neg, iteK_pos, iteK_neg]
theorem tTapeOf (t : Tp) (ht : FTp t) : pureV E (om E) 25 false [.agg [u64V t.module, lst eGr t.grants, lst eTk t.takes]] = some (.agg [u64V t.module, lst eGr t.grants, lst eTk t.takes]) := by
  have k1 := ht.grants
  have k2 := ht.takes
  have k3 := ht.each
  apply pu_25
  simp (disch := omega) [if_pos, if_neg, iteK_pos, iteK_neg, Tryz.f25]
  refine loop_chg (dyn := [7]) (fun (p : Nat × Bool) => [(3, .sref 0 2 0 p.1 p.1 (16, false)), (9, ii p.1)]) (fun _ => []) (fun p => [.row (cat eTk (t.takes.take p.1)) p.1 16 true p.2])
    (fun p => p.1 ≤ t.takes.length) (fun p => t.takes.length - p.1) hint_25_0 (by kernel_rfl) ?_ (0, true) (by simp) (by simp)
  rintro ⟨i, pl⟩ hi IH
  dsimp only at hi
  rw [lpB_eq]
  dsimp only
  have hR := lk_tk (t.takes.take i)
  have hRn := fun (h : i < t.takes.length) => cat_next eTk h
  have hRl : i = t.takes.length → cat eTk (t.takes.take i) = cat eTk t.takes := fun h => by rw [h, List.take_length]
  generalize cat eTk (t.takes.take i) = R at hR hRn hRl IH ⊢
  have hlen : R.length = i * 16 := by rw [hR.len, List.length_take, Nat.min_eq_left hi]; rfl
  have htake : R.take (i * 16) = R := List.take_of_length_le (by omega)
  have hflat := hR.flat
  have hok := hR.ok
  have hsR := hR.settle
  by_cases hil : i < t.takes.length
  · have hE := tTakeOf t.takes[i] (k3 _ (List.getElem_mem hil))
    simp (disch := omega) [if_pos, if_neg, iteK_pos, iteK_neg, hil, hE, hlen, htake, hok, hflat, hsR, settle_app]
    refine IH (i + 1, false) _ _ (by dsimp only; omega) (by dsimp only; omega) ?_
    simp [hRn hil]
  · clear IH
    obtain rfl : i = t.takes.length := by omega
    have hRe := hRl rfl
    subst hRe
    have hvR := fun (H : Heap) => hR.views 48 H
    simp (disch := omega) [if_pos, if_neg, iteK_pos, iteK_neg, hil, hvR, cl_gr]
    rw [iteK_pos (by kernel_rfl)]
    simp (disch := omega) [if_pos, if_neg, iteK_pos, iteK_neg, hil, hvR, cl_gr]
def cutF (t : Tp) (n : Int) : Tp × Nat :=
  if (checkF t).2 ≠ 0 then (⟨0, [], []⟩, (checkF t).2) else if n < 0 ∨ (t.takes.length : Int) < n then (⟨0, [], []⟩, 2) else (⟨t.module, t.grants, t.takes.take n.toNat⟩, 0)
theorem tCut (t : Tp) (ht : FTp t) (n : Int) (h1 : -9223372036854775808 ≤ n) (h2 : n ≤ 9223372036854775807) : pureV E (om E) 11 false [.agg [u64V t.module, lst eGr t.grants, lst eTk t.takes], .int .i64 n] =
    some (.tuple [.agg [u64V (cutF t n).1.module, lst eGr (cutF t n).1.grants, lst eTk (cutF t n).1.takes], ii (cutF t n).2]) := by
  have k2 := ht.takes
  have hC := fun lent => tCheck lent t ht
  unfold cutF
  generalize checkF t = C at hC ⊢
  apply pu_11
  by_cases a1 : C.2 = 0
  case neg =>
    simp (disch := omega) [if_pos, if_neg, iteK_pos, iteK_neg, Tryz.f11, hC, a1]
  by_cases a2 : n < 0
  case pos =>
    simp (disch := omega) [if_pos, if_neg, iteK_pos, iteK_neg, Tryz.f11, hC, a1, a2]
  by_cases a3 : (t.takes.length : Int) < n
  case pos =>
    simp (disch := omega) [if_pos, if_neg, iteK_pos, iteK_neg, Tryz.f11, hC, a1, a2, a3]
  obtain ⟨m, rfl⟩ : ∃ m : Nat, n = (m : Int) := ⟨n.toNat, by omega⟩
  have hm : m ≤ t.takes.length := by omega
  have hT := tTapeOf ⟨t.module, t.grants, t.takes.take m⟩ ⟨ht.grants, by simp; omega, fun k hk => ht.each k (List.mem_of_mem_take hk)⟩
  dsimp only at hT
  simp (disch := omega) [if_pos, if_neg, iteK_pos, iteK_neg, Tryz.f11, hC, a1, a3, hm, hT]
end Go.Proofs.YtijfffbhhlmgmaaGreatDoor
end
