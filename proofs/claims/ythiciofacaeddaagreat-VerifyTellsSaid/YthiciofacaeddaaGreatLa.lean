/-
  Lists lent: LentCode, LentWords, LentBytes, as memory of their own.
  The laws' functions: lend, kept, over.
  The laws' functions: over, kept.
-/
import Derived.Test.YthiciofacaeddaaGreatRd
import Derived.Test.YthiciofacaeddaaGreatMd
section
namespace Go.Proofs.YthiciofacaeddaaGreat
open Go Go.Sim
set_option maxRecDepth 100000
set_option maxHeartbeats 0
set_option linter.unusedSimpArgs false
set_option linter.unusedVariables false

def marksC (n : Nat) : List Instr := (List.range n).map fun i => ⟨200, UInt32.ofNat (1000003 + i)⟩
theorem marksC_succ (n : Nat) : marksC (n + 1) = marksC n ++ [⟨200, UInt32.ofNat (1000003 + n)⟩] := by simp [marksC, List.range_succ]
@[simp] theorem marksC_len (n : Nat) : (marksC n).length = n := by simp [marksC]
theorem MarkCode (lent) (n : Nat) (hn : n < 64) : pureV E (om E) 81 lent [ii 0, ii n] = some (insV ⟨200, UInt32.ofNat (1000003 + n)⟩) := by
  apply pu_81
  have e : (UInt32.ofNat (1000003 + n)).toNat = 1000003 + n := by rw [UInt32.toNat_ofNat']; omega
  simp (disch := omega) [if_pos, if_neg, iteK_pos, iteK_neg, Tryz.f81, insV, e]
  omega
theorem take_all {α : Type} {l : List α} {n : Nat} (h : n = l.length) : l.take n = l := by subst h; simp
theorem LentCode_body (l : List Instr) (hl : l.length ≤ 17592186043904) : bodyV E (om E) 54 [lst eInstr l] [[]] = some (.sref 0 0 0 (l.length + 64) (l.length + 64) (2, false), [[.row (cat eInstr (l ++ marksC 64)) (l.length + 64) 2 true true]]) := by
  apply bo_54
  simp (disch := omega) [if_pos, if_neg, iteK_pos, iteK_neg, Tryz.f54]
  refine loop_chg (dyn := []) (fun n : Nat => [(3, .sref 0 0 0 n n (2, false)), (4, ii n)]) (fun _ => []) (fun n => [.row (cat eInstr (l.take n)) n 2 true true]) (fun n => n ≤ l.length) (fun n => l.length - n) hint_54_0 (by kernel_rfl) ?_ 0 (by simp) (by simp)
  intro n hn IH
  rw [lpB_eq]
  by_cases h : n < l.length
  · simp (disch := omega) [if_pos, if_neg, iteK_pos, iteK_neg, h]
    refine IH (n + 1) _ _ (by omega) (by omega) ?_
    rw [take_snoc h, cat_append]
    simp [cat_cons, List.take_take]
  · obtain rfl : n = l.length := by omega
    clear IH
    simp (disch := omega) [if_pos, if_neg, iteK_pos, iteK_neg]
    refine loop_chg (dyn := []) (fun n : Nat => [(3, .sref 0 0 0 (l.length + n) (l.length + n) (2, false)), (5, ii n)]) (fun n => [(0, 0, .row (cat eInstr (l ++ marksC n)) (l.length + n) 2 true true)]) (fun _ => []) (fun n => n ≤ 64) (fun n => 64 - n) hint_54_1 (by kernel_rfl) ?_ 0 (by simp) (by simp [marksC])
    intro n hn IH
    rw [lpB_eq]
    by_cases h : n < 64
    · simp (disch := omega) [if_pos, if_neg, iteK_pos, iteK_neg, h, MarkCode]
      refine IH (n + 1) _ _ (by omega) (by omega) ?_
      rw [marksC_succ, ← List.append_assoc, cat_append _ (l ++ marksC n)]
      simp [cat_cons, take_all, Nat.add_assoc]
    · obtain rfl : n = 64 := by omega
      simp (disch := omega) [if_pos, if_neg, iteK_pos, iteK_neg]

def marksW (n : Nat) : List UInt32 := (List.range n).map fun i => UInt32.ofNat (1000003 + i)
theorem marksW_succ (n : Nat) : marksW (n + 1) = marksW n ++ [UInt32.ofNat (1000003 + n)] := by simp [marksW, List.range_succ]
@[simp] theorem marksW_len (n : Nat) : (marksW n).length = n := by simp [marksW]
theorem MarkWords (lent) (n : Nat) (hn : n < 64) : pureV E (om E) 82 lent [ii 0, ii n] = some (w32 (UInt32.ofNat (1000003 + n)).toNat) := by
  apply pu_82
  have e : (UInt32.ofNat (1000003 + n)).toNat = 1000003 + n := by rw [UInt32.toNat_ofNat']; omega
  simp (disch := omega) [if_pos, if_neg, iteK_pos, iteK_neg, Tryz.f82, e]
  omega
theorem LentWords_body (l : List UInt32) (hl : l.length ≤ 35184372087808) : bodyV E (om E) 55 [ws l] [[]] = some (.sref 0 0 0 (l.length + 64) (l.length + 64) (1, false), [[.row (cat eU32 (l ++ marksW 64)) (l.length + 64) 1 true true]]) := by
  apply bo_55
  simp (disch := omega) [if_pos, if_neg, iteK_pos, iteK_neg, Tryz.f55]
  refine loop_chg (dyn := []) (fun n : Nat => [(3, .sref 0 0 0 n n (1, false)), (4, ii n)]) (fun _ => []) (fun n => [.row (cat eU32 (l.take n)) n 1 true true]) (fun n => n ≤ l.length) (fun n => l.length - n) hint_55_0 (by kernel_rfl) ?_ 0 (by simp) (by simp)
  intro n hn IH
  rw [lpB_eq]
  by_cases h : n < l.length
  · simp (disch := omega) [if_pos, if_neg, iteK_pos, iteK_neg, h]
    refine IH (n + 1) _ _ (by omega) (by omega) ?_
    rw [take_snoc h, cat_append]
    simp [cat_cons, List.take_take]
  · obtain rfl : n = l.length := by omega
    clear IH
    simp (disch := omega) [if_pos, if_neg, iteK_pos, iteK_neg]
    refine loop_chg (dyn := []) (fun n : Nat => [(3, .sref 0 0 0 (l.length + n) (l.length + n) (1, false)), (5, ii n)]) (fun n => [(0, 0, .row (cat eU32 (l ++ marksW n)) (l.length + n) 1 true true)]) (fun _ => []) (fun n => n ≤ 64) (fun n => 64 - n) hint_55_1 (by kernel_rfl) ?_ 0 (by simp) (by simp [marksW])
    intro n hn IH
    rw [lpB_eq]
    by_cases h : n < 64
    · simp (disch := omega) [if_pos, if_neg, iteK_pos, iteK_neg, h, MarkWords]
      refine IH (n + 1) _ _ (by omega) (by omega) ?_
      rw [marksW_succ, ← List.append_assoc, cat_append _ (l ++ marksW n)]
      simp [cat_cons, take_all, Nat.add_assoc]
    · obtain rfl : n = 64 := by omega
      simp (disch := omega) [if_pos, if_neg, iteK_pos, iteK_neg]

theorem MarkBytes_ex (n : Nat) (hn : n < 64) : ∃ z : Int, ∀ lent, pureV E (om E) 51 lent [ii 0, ii n] = some (.int .u8 (IntKind.u8.wrap z)) := by
  refine ⟨?z, fun lent => ?_⟩
  rotate_left
  · apply pu_51
    simp (disch := omega) [if_pos, if_neg, iteK_pos, iteK_neg, Tryz.f51]
    rfl
theorem wrap8 (z : Int) : ∃ b : UInt8, IntKind.u8.wrap z = (b.toNat : Int) := by
  refine ⟨UInt8.ofNat (z % 256).toNat, ?_⟩
  rw [IntKind.wrap_u8, UInt8.toNat_ofNat']
  omega
theorem MarkBytes_b (n : Nat) (hn : n < 64) : ∃ b : UInt8, ∀ lent, pureV E (om E) 51 lent [ii 0, ii n] = some (w8 b.toNat) := by
  obtain ⟨z, h⟩ := MarkBytes_ex n hn
  obtain ⟨b, hb⟩ := wrap8 z
  rw [hb] at h
  exact ⟨b, h⟩
noncomputable def markB (n : Nat) : UInt8 := if h : n < 64 then (MarkBytes_b n h).choose else 0
theorem MarkBytes (lent) (n : Nat) (hn : n < 64) : pureV E (om E) 51 lent [ii 0, ii n] = some (w8 (markB n).toNat) := by
  have h := (MarkBytes_b n hn).choose_spec lent
  unfold markB
  rw [dif_pos hn]
  exact h
noncomputable def marksB (n : Nat) : List UInt8 := (List.range n).map markB
theorem marksB_succ (n : Nat) : marksB (n + 1) = marksB n ++ [markB n] := by simp [marksB, List.range_succ]
@[simp] theorem marksB_len (n : Nat) : (marksB n).length = n := by simp [marksB]
theorem LentBytes_body (l : List UInt8) (hl : l.length ≤ 140737488351232) : bodyV E (om E) 16 [bs l] [[]] = some (.sref 0 0 0 (l.length + 64) (l.length + 64) (1, false), [[.row (cat eU8 (l ++ marksB 64)) (l.length + 64) 1 true true]]) := by
  apply bo_16
  simp (disch := omega) [if_pos, if_neg, iteK_pos, iteK_neg, Tryz.f16]
  refine loop_chg (dyn := []) (fun n : Nat => [(3, .sref 0 0 0 n n (1, false)), (4, ii n)]) (fun _ => []) (fun n => [.row (cat eU8 (l.take n)) n 1 true true]) (fun n => n ≤ l.length) (fun n => l.length - n) hint_16_0 (by kernel_rfl) ?_ 0 (by simp) (by simp)
  intro n hn IH
  rw [lpB_eq]
  by_cases h : n < l.length
  · simp (disch := omega) [if_pos, if_neg, iteK_pos, iteK_neg, h]
    refine IH (n + 1) _ _ (by omega) (by omega) ?_
    rw [take_snoc h, cat_append]
    simp [cat_cons, List.take_take]
  · obtain rfl : n = l.length := by omega
    clear IH
    simp (disch := omega) [if_pos, if_neg, iteK_pos, iteK_neg]
    refine loop_chg (dyn := []) (fun n : Nat => [(3, .sref 0 0 0 (l.length + n) (l.length + n) (1, false)), (5, ii n)]) (fun n => [(0, 0, .row (cat eU8 (l ++ marksB n)) (l.length + n) 1 true true)]) (fun _ => []) (fun n => n ≤ 64) (fun n => 64 - n) hint_16_1 (by kernel_rfl) ?_ 0 (by simp) (by simp [marksB])
    intro n hn IH
    rw [lpB_eq]
    by_cases h : n < 64
    · simp (disch := omega) [if_pos, if_neg, iteK_pos, iteK_neg, h, MarkBytes]
      refine IH (n + 1) _ _ (by omega) (by omega) ?_
      rw [marksB_succ, ← List.append_assoc, cat_append _ (l ++ marksB n)]
      simp [cat_cons, take_all, Nat.add_assoc]
    · obtain rfl : n = 64 := by omega
      simp (disch := omega) [if_pos, if_neg, iteK_pos, iteK_neg]
end Go.Proofs.YthiciofacaeddaaGreat
end
section
namespace Go.Proofs.YthiciofacaeddaaGreat
open Go Go.Sim
set_option maxRecDepth 100000
set_option maxHeartbeats 0
set_option linter.unusedSimpArgs false
set_option linter.unusedVariables false

theorem LentCode_at (l : List Instr) (hl : l.length ≤ 17592186043904) {a : V} {B : List Blk} {r : Heap} (hv : viewArgs (B :: r) [a] = some [lst eInstr l]) : callV E (om E) 54 [a] (B :: r) = some (.sref 0 B.length 0 (l.length + 64) (l.length + 64) (2, false), (B ++ [.row (cat eInstr (l ++ marksC 64)) (l.length + 64) 2 true true]) :: r) := by
  rw [call_54, hv]
  simp [LentCode_body l hl, Heap.top, Heap.setTop]
theorem LentWords_at (l : List UInt32) (hl : l.length ≤ 35184372087808) {a : V} {B : List Blk} {r : Heap} (hv : viewArgs (B :: r) [a] = some [ws l]) : callV E (om E) 55 [a] (B :: r) = some (.sref 0 B.length 0 (l.length + 64) (l.length + 64) (1, false), (B ++ [.row (cat eU32 (l ++ marksW 64)) (l.length + 64) 1 true true]) :: r) := by
  rw [call_55, hv]
  simp [LentWords_body l hl, Heap.top, Heap.setTop]
theorem LentBytes_at (l : List UInt8) (hl : l.length ≤ 140737488351232) {a : V} {B : List Blk} {r : Heap} (hv : viewArgs (B :: r) [a] = some [bs l]) : callV E (om E) 16 [a] (B :: r) = some (.sref 0 B.length 0 (l.length + 64) (l.length + 64) (1, false), (B ++ [.row (cat eU8 (l ++ marksB 64)) (l.length + 64) 1 true true]) :: r) := by
  rw [call_16, hv]
  simp [LentBytes_body l hl, Heap.top, Heap.setTop]
def marksN (n : Nat) : List Export := (List.range n).map fun i => ⟨[109, 97, 114, 107], UInt32.ofNat i⟩
theorem marksN_succ (n : Nat) : marksN (n + 1) = marksN n ++ [⟨[109, 97, 114, 107], UInt32.ofNat n⟩] := by simp [marksN, List.range_succ]
@[simp] theorem marksN_len (n : Nat) : (marksN n).length = n := by simp [marksN]
abbrev lentC (b : Nat) (x : Img) : List V := [.sref 0 (b + 3) 0 x.code.length (x.code.length + 64) (2, false), .sref 0 (b + 4) 0 x.jumps.length (x.jumps.length + 64) (1, false), .sref 0 (b + 5) 0 x.data.length (x.data.length + 64) (1, false), w32 x.zero.toNat, w32 x.stack.toNat, .sref 0 (b + 6) 0 x.names.length (x.names.length + 64) (2, false),
  .sref 0 (b + 3) 0 (x.code.length + 64) (x.code.length + 64) (2, false), .sref 0 (b + 4) 0 (x.jumps.length + 64) (x.jumps.length + 64) (1, false), .sref 0 (b + 5) 0 (x.data.length + 64) (x.data.length + 64) (1, false), .sref 0 (b + 6) 0 (x.names.length + 64) (x.names.length + 64) (2, false)]
noncomputable abbrev lentR (x : Img) : List Blk := [.row (cat eInstr (x.code ++ marksC 64)) (x.code.length + 64) 2 true true, .row (cat eU32 (x.jumps ++ marksW 64)) (x.jumps.length + 64) 1 true true, .row (cat eU8 (x.data ++ marksB 64)) (x.data.length + 64) 1 true true, .row (cat eExport (x.names ++ marksN 64)) (x.names.length + 64) 2 true true]
theorem Lend_body (x : Img) (h1 : x.code.length ≤ 17592186043904) (h2 : x.jumps.length ≤ 35184372087808) (h3 : x.data.length ≤ 140737488351232) (h4 : x.names.length ≤ 5864062014634) : bodyV E (om E) 21 [imgV x] [[]] = some (.agg (lentC 0 x), [[.row [lst eInstr x.code, ws x.jumps, bs x.data, w32 x.zero.toNat, w32 x.stack.toNat, lst eExport x.names] 0 6 true false, .row (lentC 0 x) 0 10 false false, .row (lentC 0 x) 0 10 false false] ++ lentR x]) := by
  apply bo_21
  have hC := fun (B : List Blk) (r : Heap) => LentCode_at x.code h1 (a := lst eInstr x.code) (B := B) (r := r) (by simp)
  have hW := fun (B : List Blk) (r : Heap) => LentWords_at x.jumps h2 (a := ws x.jumps) (B := B) (r := r) (by simp)
  have hB := fun (B : List Blk) (r : Heap) => LentBytes_at x.data h3 (a := bs x.data) (B := B) (r := r) (by simp)
  simp (disch := omega) [if_pos, if_neg, iteK_pos, iteK_neg, Tryz.f21, hC, hW, hB]
  refine loop_chg (dyn := []) (fun n : Nat => [(4, ii n)]) (fun n => [(0, 2, .row [.nilslice, .nilslice, .nilslice, .int .u32 0, .int .u32 0, .nilslice, .sref 0 3 0 (x.code.length + 64) (x.code.length + 64) (2, false), .sref 0 4 0 (x.jumps.length + 64) (x.jumps.length + 64) (1, false), .sref 0 5 0 (x.data.length + 64) (x.data.length + 64) (1, false), .sref 0 6 0 n n (2, false)] 0 10 false false)])
    (fun n => [.row (cat eExport (x.names.take n)) n 2 true true]) (fun n => n ≤ x.names.length) (fun n => x.names.length - n) hint_21_0 (by kernel_rfl) ?_ 0 (by simp) (by simp)
  intro n hn IH
  rw [lpB_eq]
  by_cases h : n < x.names.length
  · simp (disch := omega) [if_pos, if_neg, iteK_pos, iteK_neg, h]
    refine IH (n + 1) _ _ (by omega) (by omega) ?_
    rw [take_snoc h, cat_append eExport]
    simp [cat_cons, List.take_take]
  · obtain rfl : n = x.names.length := by omega
    clear IH
    simp (disch := omega) [if_pos, if_neg, iteK_pos, iteK_neg]
    refine loop_chg (dyn := []) (fun n : Nat => [(5, ii n)]) (fun n => [(0, 2, .row [.nilslice, .nilslice, .nilslice, .int .u32 0, .int .u32 0, .nilslice, .sref 0 3 0 (x.code.length + 64) (x.code.length + 64) (2, false), .sref 0 4 0 (x.jumps.length + 64) (x.jumps.length + 64) (1, false), .sref 0 5 0 (x.data.length + 64) (x.data.length + 64) (1, false), .sref 0 6 0 (x.names.length + n) (x.names.length + n) (2, false)] 0 10 false false),
      (0, 6, .row (cat eExport (x.names ++ marksN n)) (x.names.length + n) 2 true true)])
      (fun n => []) (fun n => n ≤ 64) (fun n => 64 - n) hint_21_1 (by kernel_rfl) ?_ 0 (by simp) (by simp [marksN])
    intro n hn IH
    rw [lpB_eq]
    by_cases h : n < 64
    · have e : (UInt32.ofNat n).toNat = n := by rw [UInt32.toNat_ofNat']; omega
      simp (disch := omega) [if_pos, if_neg, iteK_pos, iteK_neg, h]
      refine IH (n + 1) _ _ (by omega) (by omega) ?_
      rw [marksN_succ, ← List.append_assoc, cat_append _ (x.names ++ marksN n)]
      simp [cat_cons, take_all, Nat.add_assoc, e]
    · obtain rfl : n = 64 := by omega
      simp (disch := omega) [if_pos, if_neg, iteK_pos, iteK_neg]
theorem Lend_at (x : Img) (h1 : x.code.length ≤ 17592186043904) (h2 : x.jumps.length ≤ 35184372087808) (h3 : x.data.length ≤ 140737488351232) (h4 : x.names.length ≤ 5864062014634) {a : V} {B : List Blk} {r : Heap} (hf : V.flat a = true) (hv : viewArgs (B :: r) [a] = some [imgV x]) :
    ∃ b0 b1 b2, callV E (om E) 21 [a] (B :: r) = some (.agg (lentC B.length x), (B ++ (b0 :: b1 :: b2 :: lentR x)) :: r) := by
  have hb := Lend_body x h1 h2 h3 h4
  refine ⟨.row [lst eInstr x.code, ws x.jumps, bs x.data, w32 x.zero.toNat, w32 x.stack.toNat, lst eExport x.names] 0 6 true false, .row (lentC B.length x) 0 10 false false, .row (lentC B.length x) 0 10 false false, ?_⟩
  rw [call_21, hv]
  simp [hb, hf, Heap.top, Heap.setTop]
noncomputable abbrev lentV (x : Img) : V := .agg [lst eInstr x.code, ws x.jumps, bs x.data, w32 x.zero.toNat, w32 x.stack.toNat, lst eExport x.names, lst eInstr (x.code ++ marksC 64), ws (x.jumps ++ marksW 64), bs (x.data ++ marksB 64), lst eExport (x.names ++ marksN 64)]
theorem neqInstr (p q : Operand) (a b a' b' : Int) : binO E .neq 71 p q (.agg [w8 a, w32 b]) (.agg [w8 a', w32 b']) = some (bb (!((a == a') && (b == b')))) :=
  binO_neq (eqV_two (n := 196) (by rw [E_P]; exact Tryz.underlying71) (by kernel_rfl) rfl rfl rfl rfl (by rw [E_P]; simp) (by rw [E_P]; simp) (eqV_int (by rw [E_P]; simp)) (eqV_int (by rw [E_P]; simp)))
theorem neqExport (p q : Operand) (a a' : List UInt8) (b b' : Int) : binO E .neq 80 p q (.agg [.str a, w32 b]) (.agg [.str a', w32 b']) = some (bb (!((a == a') && (b == b')))) :=
  binO_neq (eqV_two (n := 196) (by rw [E_P]; exact Tryz.underlying80) (by kernel_rfl) rfl rfl rfl rfl (by rw [E_P]; simp) (by rw [E_P]; simp) (eqV_str (by rw [E_P]; simp)) (eqV_int (by rw [E_P]; simp)))
theorem marksC_get {n i : Nat} (h : i < n) : (marksC n)[i]'(by simp; exact h) = ⟨200, UInt32.ofNat (1000003 + i)⟩ := by simp [marksC]
theorem marksW_get {n i : Nat} (h : i < n) : (marksW n)[i]'(by simp; exact h) = UInt32.ofNat (1000003 + i) := by simp [marksW]
theorem marksB_get {n i : Nat} (h : i < n) : (marksB n)[i]'(by simp; exact h) = markB i := by simp [marksB]
theorem marksN_get {n i : Nat} (h : i < n) : (marksN n)[i]'(by simp; exact h) = ⟨[109, 97, 114, 107], UInt32.ofNat i⟩ := by simp [marksN]
theorem KeptCode (lent) (l : List Instr) (hl : l.length ≤ 17592186043904) : pureV E (om E) 69 lent [lst eInstr (l ++ marksC 64), lst eInstr l] = some (bb true) := by
  apply pu_69
  obtain ⟨f, hf⟩ : ∃ f, f = l ++ marksC 64 := ⟨_, rfl⟩
  rw [← hf]
  have hfl : f.length = l.length + 64 := by rw [hf]; simp
  have g1 : ∀ i, (h : i < l.length) → (h' : i < f.length) → f[i] = l[i] := fun i h h' => by subst hf; exact List.getElem_append_left h
  have g2 : ∀ i, (h : i < 64) → (h' : l.length + i < f.length) → f[l.length + i] = ⟨200, UInt32.ofNat (1000003 + i)⟩ := fun i h h' => by
    subst hf
    rw [List.getElem_append_right (by omega)]
    simp only [Nat.add_sub_cancel_left]
    exact marksC_get h
  clear hf
  simp (disch := omega) [if_pos, if_neg, iteK_pos, iteK_neg, Tryz.f69, hfl]
  refine loop_chg (dyn := []) (fun n : Nat => [(5, ii n)]) (fun _ => []) (fun n => []) (fun n => n ≤ l.length) (fun n => l.length - n) hint_69_0 (by kernel_rfl) ?_ 0 (by omega) (by simp)
  intro n hn IH
  rw [lpB_eq]
  by_cases h : n < l.length
  · have g := g1 n h (by omega)
    simp (disch := omega) [if_pos, if_neg, iteK_pos, iteK_neg, h, hfl, g, neqInstr]
    exact IH (n + 1) _ _ (by omega) (by omega) (by simp)
  · obtain rfl : n = l.length := by omega
    clear IH
    simp (disch := omega) [if_pos, if_neg, iteK_pos, iteK_neg]
    refine loop_chg (dyn := []) (fun n : Nat => [(6, ii n)]) (fun _ => []) (fun n => []) (fun n => n ≤ 64) (fun n => 64 - n) hint_69_1 (by kernel_rfl) ?_ 0 (by omega) (by simp)
    intro n hn IH
    rw [lpB_eq]
    by_cases h : n < 64
    · have g := g2 n h (by omega)
      have e : ((l.length : Int) + n).toNat = l.length + n := by omega
      simp (disch := omega) [if_pos, if_neg, iteK_pos, iteK_neg, h, hfl, e, g, neqInstr, MarkCode]
      exact IH (n + 1) _ _ (by omega) (by omega) (by simp)
    · simp (disch := omega) [if_pos, if_neg, iteK_pos, iteK_neg, h]
theorem KeptWords (lent) (l : List UInt32) (hl : l.length ≤ 35184372087808) : pureV E (om E) 70 lent [ws (l ++ marksW 64), ws l] = some (bb true) := by
  apply pu_70
  obtain ⟨f, hf⟩ : ∃ f, f = l ++ marksW 64 := ⟨_, rfl⟩
  rw [← hf]
  have hfl : f.length = l.length + 64 := by rw [hf]; simp
  have g1 : ∀ i, (h : i < l.length) → (h' : i < f.length) → f[i] = l[i] := fun i h h' => by subst hf; exact List.getElem_append_left h
  have g2 : ∀ i, (h : i < 64) → (h' : l.length + i < f.length) → f[l.length + i] = UInt32.ofNat (1000003 + i) := fun i h h' => by
    subst hf
    rw [List.getElem_append_right (by omega)]
    simp only [Nat.add_sub_cancel_left]
    exact marksW_get h
  clear hf
  simp (disch := omega) [if_pos, if_neg, iteK_pos, iteK_neg, Tryz.f70, hfl]
  refine loop_chg (dyn := []) (fun n : Nat => [(5, ii n)]) (fun _ => []) (fun n => []) (fun n => n ≤ l.length) (fun n => l.length - n) hint_70_0 (by kernel_rfl) ?_ 0 (by omega) (by simp)
  intro n hn IH
  rw [lpB_eq]
  by_cases h : n < l.length
  · have g := g1 n h (by omega)
    simp (disch := omega) [if_pos, if_neg, iteK_pos, iteK_neg, h, hfl, g]
    exact IH (n + 1) _ _ (by omega) (by omega) (by simp)
  · obtain rfl : n = l.length := by omega
    clear IH
    simp (disch := omega) [if_pos, if_neg, iteK_pos, iteK_neg]
    refine loop_chg (dyn := []) (fun n : Nat => [(6, ii n)]) (fun _ => []) (fun n => []) (fun n => n ≤ 64) (fun n => 64 - n) hint_70_1 (by kernel_rfl) ?_ 0 (by omega) (by simp)
    intro n hn IH
    rw [lpB_eq]
    by_cases h : n < 64
    · have g := g2 n h (by omega)
      have e : ((l.length : Int) + n).toNat = l.length + n := by omega
      simp (disch := omega) [if_pos, if_neg, iteK_pos, iteK_neg, h, hfl, e, g, MarkWords]
      exact IH (n + 1) _ _ (by omega) (by omega) (by simp)
    · simp (disch := omega) [if_pos, if_neg, iteK_pos, iteK_neg, h]
theorem KeptBytes (lent) (l : List UInt8) (hl : l.length ≤ 140737488351232) : pureV E (om E) 19 lent [bs (l ++ marksB 64), bs l] = some (bb true) := by
  apply pu_19
  obtain ⟨f, hf⟩ : ∃ f, f = l ++ marksB 64 := ⟨_, rfl⟩
  rw [← hf]
  have hfl : f.length = l.length + 64 := by rw [hf]; simp
  have g1 : ∀ i, (h : i < l.length) → (h' : i < f.length) → f[i] = l[i] := fun i h h' => by subst hf; exact List.getElem_append_left h
  have g2 : ∀ i, (h : i < 64) → (h' : l.length + i < f.length) → f[l.length + i] = markB i := fun i h h' => by
    subst hf
    rw [List.getElem_append_right (by omega)]
    simp only [Nat.add_sub_cancel_left]
    exact marksB_get h
  clear hf
  simp (disch := omega) [if_pos, if_neg, iteK_pos, iteK_neg, Tryz.f19, hfl]
  refine loop_chg (dyn := []) (fun n : Nat => [(5, ii n)]) (fun _ => []) (fun n => []) (fun n => n ≤ l.length) (fun n => l.length - n) hint_19_0 (by kernel_rfl) ?_ 0 (by omega) (by simp)
  intro n hn IH
  rw [lpB_eq]
  by_cases h : n < l.length
  · have g := g1 n h (by omega)
    simp (disch := omega) [if_pos, if_neg, iteK_pos, iteK_neg, h, hfl, g]
    exact IH (n + 1) _ _ (by omega) (by omega) (by simp)
  · obtain rfl : n = l.length := by omega
    clear IH
    simp (disch := omega) [if_pos, if_neg, iteK_pos, iteK_neg]
    refine loop_chg (dyn := []) (fun n : Nat => [(6, ii n)]) (fun _ => []) (fun n => []) (fun n => n ≤ 64) (fun n => 64 - n) hint_19_1 (by kernel_rfl) ?_ 0 (by omega) (by simp)
    intro n hn IH
    rw [lpB_eq]
    by_cases h : n < 64
    · have g := g2 n h (by omega)
      have e : ((l.length : Int) + n).toNat = l.length + n := by omega
      simp (disch := omega) [if_pos, if_neg, iteK_pos, iteK_neg, h, hfl, e, g, MarkBytes]
      exact IH (n + 1) _ _ (by omega) (by omega) (by simp)
    · simp (disch := omega) [if_pos, if_neg, iteK_pos, iteK_neg, h]
end Go.Proofs.YthiciofacaeddaaGreat
end
section
namespace Go.Proofs.YthiciofacaeddaaGreat
open Go Go.Sim
set_option maxRecDepth 100000
set_option maxHeartbeats 0
set_option linter.unusedSimpArgs false
set_option linter.unusedVariables false

theorem cat_set2 (l : List Instr) : ∀ (i : Nat) (y : Instr), ((cat eInstr l).set (i * 2) (w8 y.op.toNat)).set (i * 2 + 1) (w32 y.arg.toNat) = cat eInstr (l.set i y) := by
  induction l with
  | nil => intro i y; simp
  | cons x l ih =>
    intro i y
    cases i with
    | zero => simp [cat_cons]
    | succ i =>
      rw [cat_cons, List.set_cons_succ, cat_cons, ← ih]
      rw [List.set_append_right _ _ (by rw [show (eInstr.enc x).length = 2 from rfl]; omega), List.set_append_right _ _ (by rw [show (eInstr.enc x).length = 2 from rfl]; omega), show (eInstr.enc x).length = 2 from rfl,
        show (i + 1) * 2 - 2 = i * 2 by omega, show (i + 1) * 2 + 1 - 2 = i * 2 + 1 by omega]
theorem cat_set2E (l : List Export) : ∀ (i : Nat) (y : Export), ((cat eExport l).set (i * 2) (.str y.name)).set (i * 2 + 1) (w32 y.place.toNat) = cat eExport (l.set i y) := by
  induction l with
  | nil => intro i y; simp
  | cons x l ih =>
    intro i y
    cases i with
    | zero => simp [cat_cons]
    | succ i =>
      rw [cat_cons, List.set_cons_succ, cat_cons, ← ih]
      rw [List.set_append_right _ _ (by rw [show (eExport.enc x).length = 2 from rfl]; omega), List.set_append_right _ _ (by rw [show (eExport.enc x).length = 2 from rfl]; omega), show (eExport.enc x).length = 2 from rfl,
        show (i + 1) * 2 - 2 = i * 2 by omega, show (i + 1) * 2 + 1 - 2 = i * 2 + 1 by omega]
theorem cat_set32 (l : List UInt32) (i : Nat) (y : UInt32) : (cat eU32 l).set i (w32 y.toNat) = cat eU32 (l.set i y) := by
  induction l generalizing i with
  | nil => simp
  | cons x l ih => cases i with
    | zero => simp [cat_cons]
    | succ i => rw [cat_cons, List.set_cons_succ, cat_cons, ← ih]; rfl
theorem cat_set8 (l : List UInt8) (i : Nat) (y : UInt8) : (cat eU8 l).set i (w8 y.toNat) = cat eU8 (l.set i y) := by
  induction l generalizing i with
  | nil => simp
  | cons x l ih => cases i with
    | zero => simp [cat_cons]
    | succ i => rw [cat_cons, List.set_cons_succ, cat_cons, ← ih]; rfl
def overL {α : Type} (f : Nat → α) (l : List α) (k : Nat) : List α := (List.range k).map f ++ l.drop k
theorem overL_len {α : Type} (f : Nat → α) (l : List α) {k : Nat} (h : k ≤ l.length) : (overL f l k).length = l.length := by simp [overL]; omega
theorem overL_zero {α : Type} (f : Nat → α) (l : List α) : overL f l 0 = l := by simp [overL]
theorem overL_set {α : Type} (f : Nat → α) (l : List α) {k : Nat} (h : k < l.length) : (overL f l k).set k (f k) = overL f l (k + 1) := by
  unfold overL
  rw [List.set_append_right _ _ (by simp), List.length_map, List.length_range, Nat.sub_self, List.drop_eq_getElem_cons h, List.set_cons_zero, List.range_succ, List.map_append]
  simp
theorem MarkCode_ex (n : Nat) (hn : n < 2 ^ 45) : ∃ y : Instr, ∀ lent, pureV E (om E) 81 lent [ii (-1), ii n] = some (insV y) := by
  refine ⟨⟨199, UInt32.ofNat n⟩, fun lent => ?_⟩
  apply pu_81
  have e : ((UInt32.ofNat n).toNat : Int) = (n : Int) % 4294967296 := by rw [UInt32.toNat_ofNat']; simp
  simp (disch := omega) [if_pos, if_neg, iteK_pos, iteK_neg, Tryz.f81, insV, e]
  all_goals first | rfl | omega | trace_state
theorem MarkWords_ex (n : Nat) (hn : n < 2 ^ 46) : ∃ y : UInt32, ∀ lent, pureV E (om E) 82 lent [ii (-1), ii n] = some (w32 y.toNat) := by
  refine ⟨UInt32.ofNat n, fun lent => ?_⟩
  apply pu_82
  have e : ((UInt32.ofNat n).toNat : Int) = (n : Int) % 4294967296 := by rw [UInt32.toNat_ofNat']; simp
  simp (disch := omega) [if_pos, if_neg, iteK_pos, iteK_neg, Tryz.f82, e]
  rw [IntKind.wrap_u32]
theorem MarkBytes_ex2 (n : Nat) (hn : n < 2 ^ 48) : ∃ z : Int, ∀ lent, pureV E (om E) 51 lent [ii (-1), ii n] = some (.int .u8 (IntKind.u8.wrap z)) := by
  refine ⟨?z, fun lent => ?_⟩
  rotate_left
  · apply pu_51
    simp (disch := omega) [if_pos, if_neg, iteK_pos, iteK_neg, Tryz.f51]
    rfl
theorem MarkBytes_b2 (n : Nat) (hn : n < 2 ^ 48) : ∃ b : UInt8, ∀ lent, pureV E (om E) 51 lent [ii (-1), ii n] = some (w8 b.toNat) := by
  obtain ⟨z, h⟩ := MarkBytes_ex2 n hn
  obtain ⟨b, hb⟩ := wrap8 z
  rw [hb] at h
  exact ⟨b, h⟩
noncomputable def overC (n : Nat) : Instr := if h : n < 2 ^ 45 then (MarkCode_ex n h).choose else ⟨0, 0⟩
noncomputable def overW (n : Nat) : UInt32 := if h : n < 2 ^ 46 then (MarkWords_ex n h).choose else 0
noncomputable def overB (n : Nat) : UInt8 := if h : n < 2 ^ 48 then (MarkBytes_b2 n h).choose else 0
theorem overC_spec (lent) {n : Nat} (h : n < 2 ^ 45) : pureV E (om E) 81 lent [ii (-1), ii n] = some (insV (overC n)) := by unfold overC; rw [dif_pos h]; exact (MarkCode_ex n h).choose_spec lent
theorem overW_spec (lent) {n : Nat} (h : n < 2 ^ 46) : pureV E (om E) 82 lent [ii (-1), ii n] = some (w32 (overW n).toNat) := by unfold overW; rw [dif_pos h]; exact (MarkWords_ex n h).choose_spec lent
theorem overB_spec (lent) {n : Nat} (h : n < 2 ^ 48) : pureV E (om E) 51 lent [ii (-1), ii n] = some (w8 (overB n).toNat) := by unfold overB; rw [dif_pos h]; exact (MarkBytes_b2 n h).choose_spec lent
theorem OverCode_at1 (l : List Instr) (hl : l.length < 2 ^ 45) (T B : List Blk) (r : Heap) (j ep : Nat) (hj : B[j]? = some (.row (cat eInstr l) ep 2 true true)) : callV E (om E) 71 [.sref 1 j 0 l.length ep (2, false)] (T :: B :: r) = some (.tuple [], T :: B.set j (.row (cat eInstr (overL overC l l.length)) ep 2 true true) :: r) := by
  obtain ⟨hjl, hj'⟩ := List.getElem?_eq_some_iff.1 hj
  apply he_71
  simp (disch := omega) [if_pos, if_neg, iteK_pos, iteK_neg, Tryz.f71]
  have hB0 : B = B.set j (.row (cat eInstr (overL overC l 0)) ep 2 true true) := by rw [overL_zero, ← hj', List.set_getElem_self]
  refine loop_chg (dyn := []) (fun n : Nat => [(2, ii n)]) (fun n => [(2, j, .row (cat eInstr (overL overC l n)) ep 2 true true)]) (fun n => []) (fun n => n ≤ l.length) (fun n => l.length - n) hint_71_0 (by kernel_rfl) ?_ 0 (by omega) (by simp [← hB0])
  intro n hn IH
  rw [lpB_eq]
  by_cases h : n < l.length
  · have hM := fun lent => overC_spec lent (n := n) (by omega)
    have e1 := cat_set2 (overL overC l n) n (overC n)
    rw [overL_set overC l h] at e1
    have e2 := overL_len overC l (k := n) (by omega)
    generalize overL overC l n = L at *
    generalize overC n = y at *
    simp (disch := omega) [if_pos, if_neg, iteK_pos, iteK_neg, h, hM, e1, e2, hjl]
    exact IH (n + 1) _ _ (by omega) (by omega) (by simp)
  · obtain rfl : n = l.length := by omega
    simp (disch := omega) [if_pos, if_neg, iteK_pos, iteK_neg, h]
theorem OverWords_at1 (l : List UInt32) (hl : l.length < 2 ^ 46) (T B : List Blk) (r : Heap) (j ep : Nat) (hj : B[j]? = some (.row (cat eU32 l) ep 1 true true)) : callV E (om E) 72 [.sref 1 j 0 l.length ep (1, false)] (T :: B :: r) = some (.tuple [], T :: B.set j (.row (cat eU32 (overL overW l l.length)) ep 1 true true) :: r) := by
  obtain ⟨hjl, hj'⟩ := List.getElem?_eq_some_iff.1 hj
  apply he_72
  simp (disch := omega) [if_pos, if_neg, iteK_pos, iteK_neg, Tryz.f72]
  have hB0 : B = B.set j (.row (cat eU32 (overL overW l 0)) ep 1 true true) := by rw [overL_zero, ← hj', List.set_getElem_self]
  refine loop_chg (dyn := []) (fun n : Nat => [(2, ii n)]) (fun n => [(2, j, .row (cat eU32 (overL overW l n)) ep 1 true true)]) (fun n => []) (fun n => n ≤ l.length) (fun n => l.length - n) hint_72_0 (by kernel_rfl) ?_ 0 (by omega) (by simp [← hB0])
  intro n hn IH
  rw [lpB_eq]
  by_cases h : n < l.length
  · have hM := fun lent => overW_spec lent (n := n) (by omega)
    have e1 := cat_set32 (overL overW l n) n (overW n)
    rw [overL_set overW l h] at e1
    have e2 := overL_len overW l (k := n) (by omega)
    generalize overL overW l n = L at *
    generalize overW n = y at *
    simp (disch := omega) [if_pos, if_neg, iteK_pos, iteK_neg, h, hM, e1, e2, hjl]
    exact IH (n + 1) _ _ (by omega) (by omega) (by simp)
  · obtain rfl : n = l.length := by omega
    simp (disch := omega) [if_pos, if_neg, iteK_pos, iteK_neg, h]
theorem OverBytes_at1 (l : List UInt8) (hl : l.length < 2 ^ 48) (T B : List Blk) (r : Heap) (j ep : Nat) (hj : B[j]? = some (.row (cat eU8 l) ep 1 true true)) : callV E (om E) 20 [.sref 1 j 0 l.length ep (1, false)] (T :: B :: r) = some (.tuple [], T :: B.set j (.row (cat eU8 (overL overB l l.length)) ep 1 true true) :: r) := by
  obtain ⟨hjl, hj'⟩ := List.getElem?_eq_some_iff.1 hj
  apply he_20
  simp (disch := omega) [if_pos, if_neg, iteK_pos, iteK_neg, Tryz.f20]
  have hB0 : B = B.set j (.row (cat eU8 (overL overB l 0)) ep 1 true true) := by rw [overL_zero, ← hj', List.set_getElem_self]
  refine loop_chg (dyn := []) (fun n : Nat => [(2, ii n)]) (fun n => [(2, j, .row (cat eU8 (overL overB l n)) ep 1 true true)]) (fun n => []) (fun n => n ≤ l.length) (fun n => l.length - n) hint_20_0 (by kernel_rfl) ?_ 0 (by omega) (by simp [← hB0])
  intro n hn IH
  rw [lpB_eq]
  by_cases h : n < l.length
  · have hM := fun lent => overB_spec lent (n := n) (by omega)
    have e1 := cat_set8 (overL overB l n) n (overB n)
    rw [overL_set overB l h] at e1
    have e2 := overL_len overB l (k := n) (by omega)
    generalize overL overB l n = L at *
    generalize overB n = y at *
    simp (disch := omega) [if_pos, if_neg, iteK_pos, iteK_neg, h, hM, e1, e2, hjl]
    exact IH (n + 1) _ _ (by omega) (by omega) (by simp)
  · obtain rfl : n = l.length := by omega
    simp (disch := omega) [if_pos, if_neg, iteK_pos, iteK_neg, h]
def overE (n : Nat) : Export := ⟨[111, 118, 101, 114], 99⟩
structure Lent4 (H : List Blk) (b : Nat) (x : Img) : Prop where
  code : H[b + 3]? = some (.row (cat eInstr (x.code ++ marksC 64)) (x.code.length + 64) 2 true true)
  jumps : H[b + 4]? = some (.row (cat eU32 (x.jumps ++ marksW 64)) (x.jumps.length + 64) 1 true true)
  data : H[b + 5]? = some (.row (cat eU8 (x.data ++ marksB 64)) (x.data.length + 64) 1 true true)
  names : H[b + 6]? = some (.row (cat eExport (x.names ++ marksN 64)) (x.names.length + 64) 2 true true)
theorem Over_at (b : Nat) (H : List Blk) (r : Heap) (x : Img) (h1 : x.code.length ≤ 17592186043904) (h2 : x.jumps.length ≤ 35184372087808) (h3 : x.data.length ≤ 140737488351232) (h4 : x.names.length ≤ 5864062014634) (hH : Lent4 H b x) :
    ∃ C J D N, callV E (om E) 25 [.agg (lentC b x)] (H :: r) = some (.tuple [], (((H.set (b + 3) C).set (b + 4) J).set (b + 5) D).set (b + 6) N :: r) := by
  obtain ⟨g1, g2, g3, g4⟩ := hH
  have c1 := fun T => OverCode_at1 (x.code ++ marksC 64) (by simp; omega) T H r (b + 3) _ g1
  rw [show (x.code ++ marksC 64).length = x.code.length + 64 by simp] at c1
  refine ⟨.row (cat eInstr (overL overC (x.code ++ marksC 64) (x.code.length + 64))) (x.code.length + 64) 2 true true, .row (cat eU32 (overL overW (x.jumps ++ marksW 64) (x.jumps.length + 64))) (x.jumps.length + 64) 1 true true, .row (cat eU8 (overL overB (x.data ++ marksB 64) (x.data.length + 64))) (x.data.length + 64) 1 true true, .row (cat eExport (overL overE (x.names ++ marksN 64) (x.names.length + 64))) (x.names.length + 64) 2 true true, ?_⟩
  generalize hH1 : H.set (b + 3) (.row (cat eInstr (overL overC (x.code ++ marksC 64) (x.code.length + 64))) (x.code.length + 64) 2 true true) = H1 at *
  replace g2 := (show H1[b + 4]? = H[b + 4]? by rw [← hH1, List.getElem?_set_ne (by omega)]).trans g2
  replace g3 := (show H1[b + 5]? = H[b + 5]? by rw [← hH1, List.getElem?_set_ne (by omega)]).trans g3
  replace g4 := (show H1[b + 6]? = H[b + 6]? by rw [← hH1, List.getElem?_set_ne (by omega)]).trans g4
  have c2 := fun T => OverWords_at1 (x.jumps ++ marksW 64) (by simp; omega) T H1 r (b + 4) _ g2
  rw [show (x.jumps ++ marksW 64).length = x.jumps.length + 64 by simp] at c2
  generalize hH2 : H1.set (b + 4) (.row (cat eU32 (overL overW (x.jumps ++ marksW 64) (x.jumps.length + 64))) (x.jumps.length + 64) 1 true true) = H2 at *
  replace g3 := (show H2[b + 5]? = H1[b + 5]? by rw [← hH2, List.getElem?_set_ne (by omega)]).trans g3
  replace g4 := (show H2[b + 6]? = H1[b + 6]? by rw [← hH2, List.getElem?_set_ne (by omega)]).trans g4
  have c3 := fun T => OverBytes_at1 (x.data ++ marksB 64) (by simp; omega) T H2 r (b + 5) _ g3
  rw [show (x.data ++ marksB 64).length = x.data.length + 64 by simp] at c3
  generalize hH3 : H2.set (b + 5) (.row (cat eU8 (overL overB (x.data ++ marksB 64) (x.data.length + 64))) (x.data.length + 64) 1 true true) = H3 at *
  replace g4 := (show H3[b + 6]? = H2[b + 6]? by rw [← hH3, List.getElem?_set_ne (by omega)]).trans g4
  clear hH1 hH2 hH3 g1 g2 g3
  have hNl : (x.names ++ marksN 64).length = x.names.length + 64 := by simp
  generalize x.names ++ marksN 64 = N at *
  obtain ⟨hjl, hj'⟩ := List.getElem?_eq_some_iff.1 g4
  have hB0 : H3 = H3.set (b + 6) (.row (cat eExport (overL overE N 0)) (x.names.length + 64) 2 true true) := by rw [overL_zero, ← hj', List.set_getElem_self]
  apply he_25
  simp (disch := omega) [if_pos, if_neg, iteK_pos, iteK_neg, Tryz.f25, c1, c2, c3]
  refine loop_chg (dyn := []) (fun n : Nat => [(2, ii n)]) (fun n => [(1, b + 6, .row (cat eExport (overL overE N n)) (x.names.length + 64) 2 true true)]) (fun n => []) (fun n => n ≤ x.names.length + 64) (fun n => x.names.length + 64 - n) hint_25_0 (by kernel_rfl) ?_ 0 (by omega) (by simp [← hB0])
  intro n hn IH
  rw [lpB_eq]
  by_cases h : n < x.names.length + 64
  · have e1 := cat_set2E (overL overE N n) n (overE n)
    rw [overL_set overE N (by omega)] at e1
    have e2 := overL_len overE N (k := n) (by omega)
    have e3 : (overE n).name = [111, 118, 101, 114] := rfl
    have e4 : (((overE n).place.toNat : Nat) : Int) = 99 := rfl
    rw [e3, e4] at e1
    generalize overL overE N n = L at *
    simp (disch := omega) [if_pos, if_neg, iteK_pos, iteK_neg, h, e1, e2, hjl, hNl]
    exact IH (n + 1) _ _ (by omega) (by omega) (by simp)
  · obtain rfl : n = x.names.length + 64 := by omega
    simp (disch := omega) [if_pos, if_neg, iteK_pos, iteK_neg, h]
theorem Kept (lent) (x : Img) (h1 : x.code.length ≤ 17592186043904) (h2 : x.jumps.length ≤ 35184372087808) (h3 : x.data.length ≤ 140737488351232) (h4 : x.names.length ≤ 5864062014634) : pureV E (om E) 24 lent [lentV x, imgV x] = some (bb true) := by
  apply pu_24
  have k1 := fun lent => KeptCode lent x.code h1
  have k2 := fun lent => KeptWords lent x.jumps h2
  have k3 := fun lent => KeptBytes lent x.data h3
  obtain ⟨f, hf⟩ : ∃ f, f = x.names ++ marksN 64 := ⟨_, rfl⟩
  unfold lentV
  rw [← hf]
  have hfl : f.length = x.names.length + 64 := by rw [hf]; simp
  have g1 : ∀ i, (h : i < x.names.length) → (h' : i < f.length) → f[i] = x.names[i] := fun i h h' => by subst hf; exact List.getElem_append_left h
  have g2 : ∀ i, (h : i < 64) → (h' : x.names.length + i < f.length) → f[x.names.length + i] = ⟨[109, 97, 114, 107], UInt32.ofNat i⟩ := fun i h h' => by
    subst hf
    rw [List.getElem_append_right (by omega)]
    simp only [Nat.add_sub_cancel_left]
    exact marksN_get h
  clear hf
  generalize x.code ++ marksC 64 = C at *
  generalize x.jumps ++ marksW 64 = J at *
  generalize x.data ++ marksB 64 = D at *
  simp (disch := omega) [if_pos, if_neg, iteK_pos, iteK_neg, Tryz.f24, k1, k2, k3]
  refine loop_chg (dyn := []) (fun n : Nat => [(5, ii n)]) (fun _ => []) (fun n => []) (fun n => n ≤ x.names.length) (fun n => x.names.length - n) hint_24_0 (by kernel_rfl) ?_ 0 (by omega) (by simp)
  intro n hn IH
  rw [lpB_eq]
  by_cases h : n < x.names.length
  · have g := g1 n h (by omega)
    simp (disch := omega) [if_pos, if_neg, iteK_pos, iteK_neg, h, hfl, g, neqExport]
    exact IH (n + 1) _ _ (by omega) (by omega) (by simp)
  · obtain rfl : n = x.names.length := by omega
    clear IH
    simp (disch := omega) [if_pos, if_neg, iteK_pos, iteK_neg]
    refine loop_chg (dyn := []) (fun n : Nat => [(6, ii n)]) (fun _ => []) (fun n => []) (fun n => n ≤ 64) (fun n => 64 - n) hint_24_1 (by kernel_rfl) ?_ 0 (by omega) (by simp)
    intro n hn IH
    rw [lpB_eq]
    by_cases h : n < 64
    · have g := g2 n h (by omega)
      have e : ((x.names.length : Int) + n).toNat = x.names.length + n := by omega
      have e5 : (UInt32.ofNat n).toNat = n := by rw [UInt32.toNat_ofNat']; omega
      simp (disch := omega) [if_pos, if_neg, iteK_pos, iteK_neg, h, hfl, e, e5, g, neqExport]
      exact IH (n + 1) _ _ (by omega) (by omega) (by simp)
    · simp (disch := omega) [if_pos, if_neg, iteK_pos, iteK_neg, h]
end Go.Proofs.YthiciofacaeddaaGreat
end
