/-
  Which tapes may be: events and results that are nothing, replies that fit.
  A gate: what it grants.
-/
import Derived.Test.YtijfffbhhlmgmaaGreatDoorVb
import Derived.Test.YtijfffbhhlmgmaaGreatDoorMt
section
namespace Go.Proofs.YtijfffbhhlmgmaaGreatDoor
open Go Go.Sim Go.Sim.Tape
set_option maxRecDepth 100000
set_option maxHeartbeats 0
set_option linter.unusedSimpArgs false
set_option linter.unusedVariables false

theorem u32_zero {x : UInt32} (h : ¬ x = 0) : ¬ x.toNat = 0 := fun e => h (UInt32.toNat_inj.1 (by simpa using e))
theorem u8_zero {x : UInt8} (h : ¬ x = 0) : ¬ x.toNat = 0 := fun e => h (UInt8.toNat_inj.1 (by simpa using e))
theorem len_zero {α : Type} {l : List α} (h : ¬ l = []) : ¬ (l.length : Int) = 0 := fun e => h (List.eq_nil_of_length_eq_zero (by omega))
theorem tNothing (lent) (e : Ev) (he : FEv e) : pureV E (om E) 94 lent [evV e] = some (bb (nothF e)) := by
  apply pu_94
  have k := he.args
  by_cases h1 : e.at_ = 0
  · by_cases h2 : e.num = 0
    · by_cases h3 : e.args = []
      · by_cases h4 : e.val = 0
        · simp (disch := omega) [if_pos, if_neg, iteK_pos, iteK_neg, Tryz.f94, h1, h2, h3, h4, nothF]
        · have h4' := u32_zero h4
          simp (disch := omega) [if_pos, if_neg, iteK_pos, iteK_neg, Tryz.f94, h1, h2, h3, h4, h4', nothF]
      · have h3' := len_zero h3
        simp (disch := omega) [if_pos, if_neg, iteK_pos, iteK_neg, Tryz.f94, h1, h2, h3, h3', nothF]
    · have h2' := u32_zero h2
      simp (disch := omega) [if_pos, if_neg, iteK_pos, iteK_neg, Tryz.f94, h1, h2, h2', nothF]
  · have h1' := u32_zero h1
    simp (disch := omega) [if_pos, if_neg, iteK_pos, iteK_neg, Tryz.f94, h1, h1', nothF]
theorem tFits (lent) (r : Rp) (hr : FRp r) : pureV E (om E) 63 lent [.agg [u32V r.val, lst eWr r.writes]] = some (bb (fitsF r)) := by
  apply pu_63
  have k1 := hr.writes
  by_cases h : r.writes.length ≤ 16
  · simp (disch := omega) [if_pos, if_neg, iteK_pos, iteK_neg, Tryz.f63, h]
    refine loop_chg (dyn := []) (fun n : Nat => [(12, ii n)]) (fun _ => []) (fun _ => [])
      (fun n => n ≤ r.writes.length ∧ ∀ w ∈ r.writes.take n, w.bytes.length ≤ 256) (fun n => r.writes.length - n) hint_63_0 (by kernel_rfl) ?_ 0 (by simp) (by simp)
    rintro n ⟨hn, hp⟩ IH
    rw [lpB_eq]
    by_cases hlt : n < r.writes.length
    · have k2 := (hr.each _ (List.getElem_mem hlt)).bytes
      by_cases hb : r.writes[n].bytes.length ≤ 256
      · simp (disch := omega) [if_pos, if_neg, iteK_pos, iteK_neg, hlt, hb]
        refine IH (n + 1) _ _ ⟨by omega, ?_⟩ (by omega) (by simp)
        rw [take_snoc hlt]
        intro w hw
        rcases List.mem_append.1 hw with hw | hw
        · exact hp w hw
        · obtain rfl := List.mem_singleton.1 hw
          exact hb
      · have hF : fitsF r = false := by
          simp only [fitsF, Bool.and_eq_false_iff, List.all_eq_false]
          exact .inr ⟨_, List.getElem_mem hlt, by simpa using hb⟩
        clear IH
        simp (disch := omega) [if_pos, if_neg, iteK_pos, iteK_neg, hlt, hb, hF]
    · have hF : fitsF r = true := by
        rw [List.take_of_length_le (by omega)] at hp
        simp only [fitsF, Bool.and_eq_true, List.all_eq_true, decide_eq_true_eq]
        exact ⟨h, hp⟩
      clear IH
      simp (disch := omega) [if_pos, if_neg, iteK_pos, iteK_neg, hlt, hF]
  · simp (disch := omega) [if_pos, if_neg, iteK_pos, iteK_neg, Tryz.f63, h, fitsF]
end Go.Proofs.YtijfffbhhlmgmaaGreatDoor
end
section
namespace Go.Proofs.YtijfffbhhlmgmaaGreatDoor
open Go Go.Sim Go.Sim.Tape
set_option maxRecDepth 100000
set_option maxHeartbeats 0
set_option linter.unusedSimpArgs false
set_option linter.unusedVariables false

theorem gate_neq (x y : Operand) (a b c d : Nat) : binO E .neq 100 x y (.pref a b c d) .nilptr = some (.bool true) := by
  show binV E .neq 100 (.pref a b c d) .nilptr = some (.bool true)
  have h : E.P.underlying 100 = some (.pointer 148) := by kernel_rfl
  unfold binV
  simp [eqV, h]
theorem gmap_neq (x y : Operand) (a b : Nat) : binO E .neq 146 x y (.mref a b) .nilmap = some (.bool true) := by
  show binV E .neq 146 (.mref a b) .nilmap = some (.bool true)
  have h : E.P.underlying 146 = some (.map 40 3) := by kernel_rfl
  unfold binV
  simp [eqV, h]
theorem gmap_under : Tryz.prog.underlying 146 = some (.map 40 3) := by kernel_rfl
theorem u32_under : Tryz.prog.underlying 40 = some (.int .u32) := by kernel_rfl
theorem int_zero : zeroV Tryz.prog 3 = some (.int .i64 0) := by kernel_rfl
theorem look_gr {h : Heap} {d j : Nat} {gs : List Gr} (hg : h.get d j = some (.mp (gs.map grE))) (n : UInt32) : lookupV Tryz.prog h 146 (.mref d j) (.int .u32 (n.toNat : Int)) true =
    some (match grFind gs n with | some g => .tuple [.int .i64 g.args, .bool true] | none => .tuple [.int .i64 0, .bool false]) := by
  have hl := mapGet_gr n gs
  simp only [lookupV, gmap_under, u32_under, hg, if_true, int_zero, Option.bind_some, hl]
  cases grFind gs n <;> rfl
theorem put_gr {h : Heap} {d j : Nat} {gs : List Gr} (hg : h.get d j = some (.mp (gs.map grE))) (x : Gr) (hn : grFind gs x.num = none) : mapPutV Tryz.prog h 146 (.mref d j) (.int .u32 (x.num.toNat : Int)) (.int .i64 x.args) =
    some (h.set d j (.mp ((gs ++ [x]).map grE))) := by
  have hl := mapPut_gr x gs hn
  simp only [mapPutV, gmap_under, u32_under, hg]
  rw [if_pos ⟨trivial, by simp⟩, hl]
  rfl
structure GateAt (h : Heap) (d j : Nat) (gs : List Gr) : Prop where
  at_ : ∃ j2, h.get d j = some (.row [.mref 0 j2] 0 1 false false) ∧ h.get d j2 = some (.mp (gs.map grE))
theorem tMade {h : Heap} {d j : Nat} {gs : List Gr} (hG : GateAt h d j gs) : callV E (om E) 84 [.pref d j 0 0] h = some (.bool true, h) := by
  obtain ⟨j2, h1, h2⟩ := hG.at_
  apply he_84
  simp (disch := omega) [if_pos, if_neg, iteK_pos, iteK_neg, Tryz.f84, V.upIf, h1, h2, gate_neq, gmap_neq]
theorem GateAt.up {h : Heap} {d j : Nat} {gs : List Gr} (hG : GateAt h d j gs) (B : List Blk) : GateAt (B :: h) (d + 1) j gs := by
  obtain ⟨j2, h1, h2⟩ := hG.at_
  exact ⟨j2, by simpa using h1, by simpa using h2⟩
theorem tGrantedN {h : Heap} {d j : Nat} {gs : List Gr} (hG : GateAt h d j gs) (n : UInt32) : callV E (om E) 145 [.pref d j 0 0, u32V n] h =
    some (match grFind gs n with | some g => .tuple [.int .i64 g.args, .bool true] | none => .tuple [.int .i64 0, .bool false], h) := by
  have hm := fun (B : List Blk) => tMade (hG.up B)
  obtain ⟨j2, h1, h2⟩ := hG.at_
  have hl := fun (B : List Blk) => look_gr (h := B :: h) (d := d + 1) (j := j2) (gs := gs) (by simpa using h2) n
  apply he_145
  cases hf : grFind gs n with
  | none =>
    rw [hf] at hl
    simp (disch := omega) [if_pos, if_neg, iteK_pos, iteK_neg, Tryz.f145, V.upIf, hm, h1, h2, hl]
  | some g =>
    rw [hf] at hl
    simp (disch := omega) [if_pos, if_neg, iteK_pos, iteK_neg, Tryz.f145, V.upIf, hm, h1, h2, hl]
theorem tGranted {h : Heap} {d j : Nat} {gs : List Gr} (hG : GateAt h d j gs) (e : Ev) (he : FEv e) : callV E (om E) 95 [.pref d j 0 0, evV e] h = some (.bool (grantedF gs e), h) := by
  have hm := fun (B : List Blk) => tGrantedN (hG.up B) e.num
  have k := he.args
  apply he_95
  unfold grantedF
  cases hf : grFind gs e.num with
  | none =>
    rw [hf] at hm
    simp (disch := omega) [if_pos, if_neg, iteK_pos, iteK_neg, Tryz.f95, V.upIf, hm]
  | some g =>
    rw [hf] at hm
    by_cases hl : g.args = e.args.length
    · simp (disch := omega) [if_pos, if_neg, iteK_pos, iteK_neg, Tryz.f95, V.upIf, hm, hl]
    · simp (disch := omega) [if_pos, if_neg, iteK_pos, iteK_neg, Tryz.f95, V.upIf, hm, hl]
end Go.Proofs.YtijfffbhhlmgmaaGreatDoor
end
