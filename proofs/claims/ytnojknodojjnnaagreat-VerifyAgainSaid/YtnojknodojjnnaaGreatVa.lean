/-
  Lists lent: LentCode, LentWords, LentBytes.
  Package verify: copied; the image of flow's code.
-/
import Derived.Test.YtnojknodojjnnaaGreatIc
import Derived.Test.YtnojknodojjnnaaGreatMe
import Derived.Test.YtnojknodojjnnaaGreatIe
import Derived.Test.YtnojknodojjnnaaGreatFg
section
namespace Go.Proofs.YtnojknodojjnnaaGreat
open Go Go.Sim
set_option maxRecDepth 100000
set_option maxHeartbeats 0
set_option linter.unusedSimpArgs false
set_option linter.unusedVariables false

/-- The marks behind lent code. -/
def marksC (n : Nat) : List Instr := (List.range n).map fun i => ⟨200, UInt32.ofNat (1000003 + i)⟩
theorem marksC_succ (n : Nat) : marksC (n + 1) = marksC n ++ [⟨200, UInt32.ofNat (1000003 + n)⟩] := by simp [marksC, List.range_succ]
@[simp] theorem marksC_len (n : Nat) : (marksC n).length = n := by simp [marksC]
theorem MarkCode (lent) (n : Nat) (hn : n < 64) : pureV E (om E) 60 lent [ii 0, ii n] = some (insV ⟨200, UInt32.ofNat (1000003 + n)⟩) := by
  apply pu_60
  have e : (UInt32.ofNat (1000003 + n)).toNat = 1000003 + n := by rw [UInt32.toNat_ofNat']; omega
  simp (disch := omega) [if_pos, if_neg, iteK_pos, iteK_neg, Tryz.f60, insV, e]
  omega
theorem take_all {α : Type} {l : List α} {n : Nat} (h : n = l.length) : l.take n = l := by subst h; simp
theorem LentCode (lent) (l : List Instr) (hl : l.length ≤ 17592186043904) : pureV E (om E) 26 lent [lst eInstr l] = some (lst eInstr (l ++ marksC 64)) := by
  apply pu_26
  simp (disch := omega) [if_pos, if_neg, iteK_pos, iteK_neg, Tryz.f26]
  refine loop_chg (dyn := []) (fun n : Nat => [(3, .sref 0 0 0 n n (2, false)), (4, ii n)]) (fun _ => []) (fun n => [.row (cat eInstr (l.take n)) n 2 true true]) (fun n => n ≤ l.length) (fun n => l.length - n) hint_26_0 (by kernel_rfl) ?_ 0 (by simp) (by simp)
  intro n hn IH
  rw [lpB_eq]
  by_cases h : n < l.length
  · simp (disch := omega) [if_pos, if_neg, iteK_pos, iteK_neg, h]
    refine IH (n + 1) _ _ (by omega) (by omega) ?_
    rw [take_snoc h, cat_append]
    simp [cat_cons, List.take_take]
  · obtain rfl : n = l.length := by omega
    clear IH
    simp (disch := omega) [if_pos, if_neg, iteK_pos, iteK_neg]
    refine loop_chg (dyn := []) (fun n : Nat => [(3, .sref 0 0 0 (l.length + n) (l.length + n) (2, false)), (5, ii n)]) (fun n => [(0, 0, .row (cat eInstr (l ++ marksC n)) (l.length + n) 2 true true)]) (fun _ => []) (fun n => n ≤ 64) (fun n => 64 - n) hint_26_1 (by kernel_rfl) ?_ 0 (by simp) (by simp [marksC])
    intro n hn IH
    rw [lpB_eq]
    by_cases h : n < 64
    · simp (disch := omega) [if_pos, if_neg, iteK_pos, iteK_neg, h, MarkCode]
      refine IH (n + 1) _ _ (by omega) (by omega) ?_
      rw [marksC_succ, ← List.append_assoc, cat_append _ (l ++ marksC n)]
      simp [cat_cons, take_all, Nat.add_assoc]
    · obtain rfl : n = 64 := by omega
      simp (disch := omega) [if_pos, if_neg, iteK_pos, iteK_neg]
      exact res_lst eInstr (by simp) rfl

def marksW (n : Nat) : List UInt32 := (List.range n).map fun i => UInt32.ofNat (1000003 + i)
theorem marksW_succ (n : Nat) : marksW (n + 1) = marksW n ++ [UInt32.ofNat (1000003 + n)] := by simp [marksW, List.range_succ]
@[simp] theorem marksW_len (n : Nat) : (marksW n).length = n := by simp [marksW]
theorem MarkWords (lent) (n : Nat) (hn : n < 64) : pureV E (om E) 61 lent [ii 0, ii n] = some (w32 (UInt32.ofNat (1000003 + n)).toNat) := by
  apply pu_61
  have e : (UInt32.ofNat (1000003 + n)).toNat = 1000003 + n := by rw [UInt32.toNat_ofNat']; omega
  simp (disch := omega) [if_pos, if_neg, iteK_pos, iteK_neg, Tryz.f61, e]
  omega
theorem LentWords (lent) (l : List UInt32) (hl : l.length ≤ 35184372087808) : pureV E (om E) 27 lent [ws l] = some (ws (l ++ marksW 64)) := by
  apply pu_27
  simp (disch := omega) [if_pos, if_neg, iteK_pos, iteK_neg, Tryz.f27]
  refine loop_chg (dyn := []) (fun n : Nat => [(3, .sref 0 0 0 n n (1, false)), (4, ii n)]) (fun _ => []) (fun n => [.row (cat eU32 (l.take n)) n 1 true true]) (fun n => n ≤ l.length) (fun n => l.length - n) hint_27_0 (by kernel_rfl) ?_ 0 (by simp) (by simp)
  intro n hn IH
  rw [lpB_eq]
  by_cases h : n < l.length
  · simp (disch := omega) [if_pos, if_neg, iteK_pos, iteK_neg, h]
    refine IH (n + 1) _ _ (by omega) (by omega) ?_
    rw [take_snoc h, cat_append]
    simp [cat_cons, List.take_take]
  · obtain rfl : n = l.length := by omega
    clear IH
    simp (disch := omega) [if_pos, if_neg, iteK_pos, iteK_neg]
    refine loop_chg (dyn := []) (fun n : Nat => [(3, .sref 0 0 0 (l.length + n) (l.length + n) (1, false)), (5, ii n)]) (fun n => [(0, 0, .row (cat eU32 (l ++ marksW n)) (l.length + n) 1 true true)]) (fun _ => []) (fun n => n ≤ 64) (fun n => 64 - n) hint_27_1 (by kernel_rfl) ?_ 0 (by simp) (by simp [marksW])
    intro n hn IH
    rw [lpB_eq]
    by_cases h : n < 64
    · simp (disch := omega) [if_pos, if_neg, iteK_pos, iteK_neg, h, MarkWords]
      refine IH (n + 1) _ _ (by omega) (by omega) ?_
      rw [marksW_succ, ← List.append_assoc, cat_append _ (l ++ marksW n)]
      simp [cat_cons, take_all, Nat.add_assoc]
    · obtain rfl : n = 64 := by omega
      simp (disch := omega) [if_pos, if_neg, iteK_pos, iteK_neg]
      exact res_lst eU32 (by simp) rfl

theorem MarkBytes_ex (n : Nat) (hn : n < 64) : ∃ z : Int, ∀ lent, pureV E (om E) 62 lent [ii 0, ii n] = some (.int .u8 (IntKind.u8.wrap z)) := by
  refine ⟨?z, fun lent => ?_⟩
  rotate_left
  · apply pu_62
    simp (disch := omega) [if_pos, if_neg, iteK_pos, iteK_neg, Tryz.f62]
    rfl
theorem wrap8 (z : Int) : ∃ b : UInt8, IntKind.u8.wrap z = (b.toNat : Int) := by
  refine ⟨UInt8.ofNat (z % 256).toNat, ?_⟩
  rw [IntKind.wrap_u8, UInt8.toNat_ofNat']
  omega
theorem MarkBytes_b (n : Nat) (hn : n < 64) : ∃ b : UInt8, ∀ lent, pureV E (om E) 62 lent [ii 0, ii n] = some (w8 b.toNat) := by
  obtain ⟨z, h⟩ := MarkBytes_ex n hn
  obtain ⟨b, hb⟩ := wrap8 z
  rw [hb] at h
  exact ⟨b, h⟩
noncomputable def markB (n : Nat) : UInt8 := if h : n < 64 then (MarkBytes_b n h).choose else 0
theorem MarkBytes (lent) (n : Nat) (hn : n < 64) : pureV E (om E) 62 lent [ii 0, ii n] = some (w8 (markB n).toNat) := by
  have h := (MarkBytes_b n hn).choose_spec lent
  unfold markB
  rw [dif_pos hn]
  exact h
noncomputable def marksB (n : Nat) : List UInt8 := (List.range n).map markB
theorem marksB_succ (n : Nat) : marksB (n + 1) = marksB n ++ [markB n] := by simp [marksB, List.range_succ]
@[simp] theorem marksB_len (n : Nat) : (marksB n).length = n := by simp [marksB]
theorem LentBytes (lent) (l : List UInt8) (hl : l.length ≤ 140737488351232) : pureV E (om E) 28 lent [bs l] = some (bs (l ++ marksB 64)) := by
  apply pu_28
  simp (disch := omega) [if_pos, if_neg, iteK_pos, iteK_neg, Tryz.f28]
  refine loop_chg (dyn := []) (fun n : Nat => [(3, .sref 0 0 0 n n (1, false)), (4, ii n)]) (fun _ => []) (fun n => [.row (cat eU8 (l.take n)) n 1 true true]) (fun n => n ≤ l.length) (fun n => l.length - n) hint_28_0 (by kernel_rfl) ?_ 0 (by simp) (by simp)
  intro n hn IH
  rw [lpB_eq]
  by_cases h : n < l.length
  · simp (disch := omega) [if_pos, if_neg, iteK_pos, iteK_neg, h]
    refine IH (n + 1) _ _ (by omega) (by omega) ?_
    rw [take_snoc h, cat_append]
    simp [cat_cons, List.take_take]
  · obtain rfl : n = l.length := by omega
    clear IH
    simp (disch := omega) [if_pos, if_neg, iteK_pos, iteK_neg]
    refine loop_chg (dyn := []) (fun n : Nat => [(3, .sref 0 0 0 (l.length + n) (l.length + n) (1, false)), (5, ii n)]) (fun n => [(0, 0, .row (cat eU8 (l ++ marksB n)) (l.length + n) 1 true true)]) (fun _ => []) (fun n => n ≤ 64) (fun n => 64 - n) hint_28_1 (by kernel_rfl) ?_ 0 (by simp) (by simp [marksB])
    intro n hn IH
    rw [lpB_eq]
    by_cases h : n < 64
    · simp (disch := omega) [if_pos, if_neg, iteK_pos, iteK_neg, h, MarkBytes]
      refine IH (n + 1) _ _ (by omega) (by omega) ?_
      rw [marksB_succ, ← List.append_assoc, cat_append _ (l ++ marksB n)]
      simp [cat_cons, take_all, Nat.add_assoc]
    · obtain rfl : n = 64 := by omega
      simp (disch := omega) [if_pos, if_neg, iteK_pos, iteK_neg]
      exact res_lst eU8 (by simp) rfl
end Go.Proofs.YtnojknodojjnnaaGreat
end
section
namespace Go.Proofs.YtnojknodojjnnaaGreat
open Go Go.Sim
set_option maxRecDepth 100000
set_option maxHeartbeats 0
set_option linter.unusedSimpArgs false
set_option linter.unusedVariables false

/-- An instruction as package flow's contracts have it. -/
def fl (i : Instr) : Fl.Instr := ⟨i.op.toNat, i.arg.toNat⟩
theorem lst_fl (l : List Instr) : lst eInstr l = lst Fl.eInstr (l.map fl) := by
  have : cat eInstr l = cat Fl.eInstr (l.map fl) := by
    induction l with
    | nil => rfl
    | cons x l ih => rw [List.map_cons, cat_cons, cat_cons, ih]; rfl
  unfold lst
  rw [this, List.length_map]
theorem ws_fl (l : List UInt32) : ws l = lst Fl.eW (l.map UInt32.toNat) := by
  have : cat eU32 l = cat Fl.eW (l.map UInt32.toNat) := by
    induction l with
    | nil => rfl
    | cons x l ih => rw [List.map_cons, cat_cons, cat_cons, ih]; rfl
  show lst eU32 l = _
  unfold lst
  rw [this, List.length_map]
theorem isOp_fl (n : Nat) : Fl.isOp n = isOp n := rfl
theorem rowOf_fl (n : Nat) : (Fl.rowOf n).word = (rowOf n).word ∧ (Fl.rowOf n).most = (rowOf n).most := by
  unfold Fl.rowOf rowOf
  rw [isOp_fl]
  cases isOp n with
  | false => exact ⟨rfl, rfl⟩
  | true =>
    rw [if_pos rfl, if_pos rfl]
    generalize pureV E (ev E 60) 34 false [.int .u8 n] = o
    unfold Fl.rowFrom rowFrom
    split <;> simp_all
theorem insBad_fl (i : Instr) : Fl.insBad (fl i) = insBad i := by
  unfold Fl.insBad insBad
  rw [isOp_fl, ← Fl.most_eq, (rowOf_fl _).2]
  rfl
@[simp] theorem zero_known : zeroV Tryz.prog 72 = some (.agg [.nilptr, .nilslice, .nilslice, .nilslice, .nilslice, .nilslice, .nilslice, .int .u32 0, .int .u32 0, .nilslice, ii 0, .int .u64 0]) := by kernel_rfl
theorem VCopied (x : Img) (h1 : x.code.length ≤ 17592186044416) (h2 : x.jumps.length ≤ 35184372088832) (h3 : x.data.length ≤ 140737488355328) (h4 : x.names.length ≤ 5864062014805) : pureV E (om E) 21 false [imgV x] = some (imgV x) := by
  apply pu_21
  have k1 : ∀ h, cloneWL 17592186044416 2 [lst eInstr x.code] h = _ := fun h => clone_lst eInstr x.code h 2 rfl
  have k2 : ∀ h, cloneWL 35184372088832 1 [ws x.jumps] h = _ := fun h => clone_lst eU32 x.jumps h 1 rfl
  have k3 : ∀ h, cloneWL 140737488355328 1 [bs x.data] h = _ := fun h => clone_lst eU8 x.data h 1 rfl
  have k4 : ∀ h, cloneWL 5864062014805 2 [lst eExport x.names] h = _ := fun h => clone_lst eExport x.names h 2 rfl
  have n1 : ¬ 17592186044416 < x.code.length := by omega
  have n2 : ¬ 35184372088832 < x.jumps.length := by omega
  have n3 : ¬ 140737488355328 < x.data.length := by omega
  have n4 : ¬ 5864062014805 < x.names.length := by omega
  by_cases c1 : x.code = [] <;> by_cases c2 : x.jumps = [] <;> by_cases c3 : x.data = [] <;> by_cases c4 : x.names = [] <;>
    simp (disch := omega) [if_pos, if_neg, iteK_pos, iteK_neg, Tryz.f21, k1, k2, k3, k4, n1, n2, n3, n4, c1, c2, c3, c4]
end Go.Proofs.YtnojknodojjnnaaGreat
end
