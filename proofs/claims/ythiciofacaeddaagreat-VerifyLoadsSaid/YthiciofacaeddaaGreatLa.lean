/-
 Lists lent: LentCode, LentWords, LentBytes, as memory of their own.
 The laws' functions: lend, kept, over.
 The laws' functions: over, kept.
-/
import Derived.Test.YthiciofacaeddaaGreatRd
import Derived.Test.YthiciofacaeddaaGreatMd
section
namespace Go.Proofs.YthiciofacaeddaaGreat
open Go Go.Sim
set_option maxRecDepth 100000
set_option maxHeartbeats 0
set_option linter.unusedSimpArgs false
set_option linter.unusedVariables false

def marksC (n : Nat) : List Instr := (List.range n).map fun i => ⟨200, UInt32.ofNat (1000003 + i)⟩
theorem take_all {α : Type} {l : List α} {n : Nat} (h : n = l.length) : l.take n = l := by subst h; simp
def marksW (n : Nat) : List UInt32 := (List.range n).map fun i => UInt32.ofNat (1000003 + i)
theorem MarkBytes_ex (n : Nat) (hn : n < 64) : ∃ z : Int, ∀ lent, pureV E (om E) 51 lent [ii 0, ii n] = some (.int .u8 (IntKind.u8.wrap z)) := by
 refine ⟨?z, fun lent => ?_⟩
 rotate_left
 ·apply pu_51
  simp (disch := omega) [if_pos, if_neg, iteK_pos, iteK_neg, Tryz.f51]
  rfl
theorem wrap8 (z : Int) : ∃ b : UInt8, IntKind.u8.wrap z = (b.toNat : Int) := by
 refine ⟨UInt8.ofNat (z % 256).toNat, ?_⟩
 rw [IntKind.wrap_u8, UInt8.toNat_ofNat']
 omega
theorem MarkBytes_b (n : Nat) (hn : n < 64) : ∃ b : UInt8, ∀ lent, pureV E (om E) 51 lent [ii 0, ii n] = some (w8 b.toNat) := by
 obtain ⟨z, h⟩ := MarkBytes_ex n hn
 obtain ⟨b, hb⟩ := wrap8 z
 rw [hb] at h
 exact ⟨b, h⟩
noncomputable def markB (n : Nat) : UInt8 := if h : n < 64 then (MarkBytes_b n h).choose else 0
theorem MarkBytes (lent) (n : Nat) (hn : n < 64) : pureV E (om E) 51 lent [ii 0, ii n] = some (w8 (markB n).toNat) := by
 have h := (MarkBytes_b n hn).choose_spec lent
 unfold markB
 rw [dif_pos hn]
 exact h
noncomputable def marksB (n : Nat) : List UInt8 := (List.range n).map markB
theorem marksB_succ (n : Nat) : marksB (n + 1) = marksB n ++ [markB n] := by simp [marksB, List.range_succ]
@[simp] theorem marksB_len (n : Nat) : (marksB n).length = n := by simp [marksB]
theorem LentBytes_body (l : List UInt8) (hl : l.length ≤ 140737488351232) : bodyV E (om E) 16 [bs l] [[]] = some (.sref 0 0 0 (l.length + 64) (l.length + 64) (1, false), [[.row (cat eU8 (l ++ marksB 64)) (l.length + 64) 1 true true]]) := by
 apply bo_16
 simp (disch := omega) [if_pos, if_neg, iteK_pos, iteK_neg, Tryz.f16]
 refine loop_chg (dyn := []) (fun n : Nat => [(3, .sref 0 0 0 n n (1, false)), (4, ii n)]) (fun _ => []) (fun n => [.row (cat eU8 (l.take n)) n 1 true true]) (fun n => n ≤ l.length) (fun n => l.length - n) hint_16_0 (by kernel_rfl) ?_ 0 (by simp) (by simp)
 intro n hn IH
 rw [lpB_eq]
 by_cases h : n < l.length
 ·simp (disch := omega) [if_pos, if_neg, iteK_pos, iteK_neg, h]
  refine IH (n + 1) _ _ (by omega) (by omega) ?_
  rw [take_snoc h, cat_append]
  simp [cat_cons, List.take_take]
 ·obtain rfl : n = l.length := by omega
  clear IH
  simp (disch := omega) [if_pos, if_neg, iteK_pos, iteK_neg]
  refine loop_chg (dyn := []) (fun n : Nat => [(3, .sref 0 0 0 (l.length + n) (l.length + n) (1, false)), (5, ii n)]) (fun n => [(0, 0, .row (cat eU8 (l ++ marksB n)) (l.length + n) 1 true true)]) (fun _ => []) (fun n => n ≤ 64) (fun n => 64 - n) hint_16_1 (by kernel_rfl) ?_ 0 (by simp) (by simp [marksB])
  intro n hn IH
  rw [lpB_eq]
  by_cases h : n < 64
  ·simp (disch := omega) [if_pos, if_neg, iteK_pos, iteK_neg, h, MarkBytes]
   refine IH (n + 1) _ _ (by omega) (by omega) ?_
   rw [marksB_succ, ← List.append_assoc, cat_append _ (l ++ marksB n)]
   simp [cat_cons, take_all, Nat.add_assoc]
  ·obtain rfl : n = 64 := by omega
   simp (disch := omega) [if_pos, if_neg, iteK_pos, iteK_neg]
end Go.Proofs.YthiciofacaeddaaGreat
end
section
namespace Go.Proofs.YthiciofacaeddaaGreat
open Go Go.Sim
set_option maxRecDepth 100000
set_option maxHeartbeats 0
set_option linter.unusedSimpArgs false
set_option linter.unusedVariables false

theorem LentBytes_at (l : List UInt8) (hl : l.length ≤ 140737488351232) {a : V} {B : List Blk} {r : Heap} (hv : viewArgs (B :: r) [a] = some [bs l]) : callV E (om E) 16 [a] (B :: r) = some (.sref 0 B.length 0 (l.length + 64) (l.length + 64) (1, false), (B ++ [.row (cat eU8 (l ++ marksB 64)) (l.length + 64) 1 true true]) :: r) := by
 rw [call_16, hv]
 simp [LentBytes_body l hl, Heap.top, Heap.setTop]
def marksN (n : Nat) : List Export := (List.range n).map fun i => ⟨[109, 97, 114, 107], UInt32.ofNat i⟩
theorem neqInstr (p q : Operand) (a b a' b' : Int) : binO E .neq 71 p q (.agg [w8 a, w32 b]) (.agg [w8 a', w32 b']) = some (bb (!((a == a') && (b == b')))) :=
 binO_neq (eqV_two (n := 196) (by rw [E_P]; exact Tryz.underlying71) (by kernel_rfl) rfl rfl rfl rfl (by rw [E_P]; simp) (by rw [E_P]; simp) (eqV_int (by rw [E_P]; simp)) (eqV_int (by rw [E_P]; simp)))
theorem marksB_get {n i : Nat} (h : i < n) : (marksB n)[i]'(by simp; exact h) = markB i := by simp [marksB]
theorem KeptBytes (lent) (l : List UInt8) (hl : l.length ≤ 140737488351232) : pureV E (om E) 19 lent [bs (l ++ marksB 64), bs l] = some (bb true) := by
 apply pu_19
 obtain ⟨f, hf⟩ : ∃ f, f = l ++ marksB 64 := ⟨_, rfl⟩
 rw [← hf]
 have hfl : f.length = l.length + 64 := by rw [hf]; simp
 have g1 : ∀ i, (h : i < l.length) → (h' : i < f.length) → f[i] = l[i] := fun i h h' => by subst hf; exact List.getElem_append_left h
 have g2 : ∀ i, (h : i < 64) → (h' : l.length + i < f.length) → f[l.length + i] = markB i := fun i h h' => by
  subst hf
  rw [List.getElem_append_right (by omega)]
  simp only [Nat.add_sub_cancel_left]
  exact marksB_get h
 clear hf
 simp (disch := omega) [if_pos, if_neg, iteK_pos, iteK_neg, Tryz.f19, hfl]
 refine loop_chg (dyn := []) (fun n : Nat => [(5, ii n)]) (fun _ => []) (fun n => []) (fun n => n ≤ l.length) (fun n => l.length - n) hint_19_0 (by kernel_rfl) ?_ 0 (by omega) (by simp)
 intro n hn IH
 rw [lpB_eq]
 by_cases h : n < l.length
 ·have g := g1 n h (by omega)
  simp (disch := omega) [if_pos, if_neg, iteK_pos, iteK_neg, h, hfl, g]
  exact IH (n + 1) _ _ (by omega) (by omega) (by simp)
 ·obtain rfl : n = l.length := by omega
  clear IH
  simp (disch := omega) [if_pos, if_neg, iteK_pos, iteK_neg]
  refine loop_chg (dyn := []) (fun n : Nat => [(6, ii n)]) (fun _ => []) (fun n => []) (fun n => n ≤ 64) (fun n => 64 - n) hint_19_1 (by kernel_rfl) ?_ 0 (by omega) (by simp)
  intro n hn IH
  rw [lpB_eq]
  by_cases h : n < 64
  ·have g := g2 n h (by omega)
   have e : ((l.length : Int) + n).toNat = l.length + n := by omega
   simp (disch := omega) [if_pos, if_neg, iteK_pos, iteK_neg, h, hfl, e, g, MarkBytes]
   exact IH (n + 1) _ _ (by omega) (by omega) (by simp)
  ·simp (disch := omega) [if_pos, if_neg, iteK_pos, iteK_neg, h]
end Go.Proofs.YthiciofacaeddaaGreat
end
section
namespace Go.Proofs.YthiciofacaeddaaGreat
open Go Go.Sim
set_option maxRecDepth 100000
set_option maxHeartbeats 0
set_option linter.unusedSimpArgs false
set_option linter.unusedVariables false

theorem cat_set8 (l : List UInt8) (i : Nat) (y : UInt8) : (cat eU8 l).set i (w8 y.toNat) = cat eU8 (l.set i y) := by
 induction l generalizing i with
 | nil => simp
 | cons x l ih => cases i with
  | zero => simp [cat_cons]
  | succ i => rw [cat_cons, List.set_cons_succ, cat_cons, ← ih]; rfl
def overL {α : Type} (f : Nat → α) (l : List α) (k : Nat) : List α := (List.range k).map f ++ l.drop k
theorem overL_len {α : Type} (f : Nat → α) (l : List α) {k : Nat} (h : k ≤ l.length) : (overL f l k).length = l.length := by simp [overL]; omega
theorem overL_zero {α : Type} (f : Nat → α) (l : List α) : overL f l 0 = l := by simp [overL]
theorem overL_set {α : Type} (f : Nat → α) (l : List α) {k : Nat} (h : k < l.length) : (overL f l k).set k (f k) = overL f l (k + 1) := by
 unfold overL
 rw [List.set_append_right _ _ (by simp), List.length_map, List.length_range, Nat.sub_self, List.drop_eq_getElem_cons h, List.set_cons_zero, List.range_succ, List.map_append]
 simp
theorem MarkBytes_ex2 (n : Nat) (hn : n < 2 ^ 48) : ∃ z : Int, ∀ lent, pureV E (om E) 51 lent [ii (-1), ii n] = some (.int .u8 (IntKind.u8.wrap z)) := by
 refine ⟨?z, fun lent => ?_⟩
 rotate_left
 ·apply pu_51
  simp (disch := omega) [if_pos, if_neg, iteK_pos, iteK_neg, Tryz.f51]
  rfl
theorem MarkBytes_b2 (n : Nat) (hn : n < 2 ^ 48) : ∃ b : UInt8, ∀ lent, pureV E (om E) 51 lent [ii (-1), ii n] = some (w8 b.toNat) := by
 obtain ⟨z, h⟩ := MarkBytes_ex2 n hn
 obtain ⟨b, hb⟩ := wrap8 z
 rw [hb] at h
 exact ⟨b, h⟩
noncomputable def overB (n : Nat) : UInt8 := if h : n < 2 ^ 48 then (MarkBytes_b2 n h).choose else 0
theorem overB_spec (lent) {n : Nat} (h : n < 2 ^ 48) : pureV E (om E) 51 lent [ii (-1), ii n] = some (w8 (overB n).toNat) := by unfold overB; rw [dif_pos h]; exact (MarkBytes_b2 n h).choose_spec lent
theorem OverBytes_at0 (l : List UInt8) (hl : l.length < 2 ^ 48) (B : List Blk) (r : Heap) (j ep : Nat) (hj : B[j]? = some (.row (cat eU8 l) ep 1 true true)) : callV E (om E) 20 [.sref 0 j 0 l.length ep (1, false)] (B :: r) = some (.tuple [], B.set j (.row (cat eU8 (overL overB l l.length)) ep 1 true true) :: r) := by
 obtain ⟨hjl, hj'⟩ := List.getElem?_eq_some_iff.1 hj
 apply he_20
 simp (disch := omega) [if_pos, if_neg, iteK_pos, iteK_neg, Tryz.f20]
 have hB0 : B = B.set j (.row (cat eU8 (overL overB l 0)) ep 1 true true) := by rw [overL_zero, ← hj', List.set_getElem_self]
 refine loop_chg (dyn := []) (fun n : Nat => [(2, ii n)]) (fun n => [(1, j, .row (cat eU8 (overL overB l n)) ep 1 true true)]) (fun n => []) (fun n => n ≤ l.length) (fun n => l.length - n) hint_20_0 (by kernel_rfl) ?_ 0 (by omega) (by simp [← hB0])
 intro n hn IH
 rw [lpB_eq]
 by_cases h : n < l.length
 ·have hM := fun lent => overB_spec lent (n := n) (by omega)
  have e1 := cat_set8 (overL overB l n) n (overB n)
  rw [overL_set overB l h] at e1
  have e2 := overL_len overB l (k := n) (by omega)
  generalize overL overB l n = L at *
  generalize overB n = y at *
  simp (disch := omega) [if_pos, if_neg, iteK_pos, iteK_neg, h, hM, e1, e2, hjl]
  exact IH (n + 1) _ _ (by omega) (by omega) (by simp)
 ·obtain rfl : n = l.length := by omega
  simp (disch := omega) [if_pos, if_neg, iteK_pos, iteK_neg, h]
structure Lent4 (H : List Blk) (b : Nat) (x : Img) : Prop where
 code : H[b + 3]? = some (.row (cat eInstr (x.code ++ marksC 64)) (x.code.length + 64) 2 true true)
 jumps : H[b + 4]? = some (.row (cat eU32 (x.jumps ++ marksW 64)) (x.jumps.length + 64) 1 true true)
 data : H[b + 5]? = some (.row (cat eU8 (x.data ++ marksB 64)) (x.data.length + 64) 1 true true)
 names : H[b + 6]? = some (.row (cat eExport (x.names ++ marksN 64)) (x.names.length + 64) 2 true true)
end Go.Proofs.YthiciofacaeddaaGreat
end
