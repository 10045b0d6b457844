/-
  The law's small machine: push, load, store.
  The law's small machine, told as a state; size.
-/
import Derived.Test.YtjmipgfaghjgmaaNd
import Derived.Test.YtjmipgfaghjgmaaNb
import Derived.Test.YtjmipgfaghjgmaaMd
import Derived.Test.YtjmipgfaghjgmaaMe
section
namespace Go.Proofs.Ytjmipgfaghjgmaa
open Go Go.Sim
set_option maxRecDepth 100000
set_option linter.unusedSimpArgs false
set_option linter.unusedVariables false
theorem get_setP {h : Heap} {d j : Nat} {b b' : Blk} (hg : h.get d j = some b') : (h.set d j b).get d j = some b := by
  unfold Heap.get Heap.set at *
  cases hd : h[d]? with
  | none => rw [hd] at hg; cases hg
  | some l =>
    rw [hd] at hg
    simp only [Option.bind_some] at hg
    have h1 := (List.getElem?_eq_some_iff.1 hd).1
    have h2 := (List.getElem?_eq_some_iff.1 hg).1
    rw [List.getElem?_set_self h1]
    simp [h2]
theorem set_setP (h : Heap) (d j : Nat) (b b' : Blk) : (h.set d j b).set d j b' = h.set d j b' := by
  unfold Heap.set
  cases hd : h[d]? with
  | none => simp [hd, List.set_eq_of_length_le (List.getElem?_eq_none_iff.1 hd)]
  | some l =>
    have h1 := (List.getElem?_eq_some_iff.1 hd).1
    rw [List.getElem?_set_self h1]
    simp
theorem set_selfP {h : Heap} {d j : Nat} {b : Blk} (hg : h.get d j = some b) : h.set d j b = h := by
  unfold Heap.get Heap.set at *
  cases hd : h[d]? with
  | none => rw [hd] at hg; cases hg
  | some l =>
    rw [hd] at hg
    simp only [Option.bind_some] at hg
    obtain ⟨h1, h1'⟩ := List.getElem?_eq_some_iff.1 hd
    obtain ⟨h2, h2'⟩ := List.getElem?_eq_some_iff.1 hg
    simp only [Option.getD_some]
    rw [← h2', List.set_getElem_self, ← h1', List.set_getElem_self]

theorem push {h : Heap} {d j : Nat} {M : PM} {junk : List Nat} (hg : h.get d j = some M.blk) (hg2 : h.get d M.j = some (opsB (M.ops ++ junk) M.ep)) (hne : j ≠ M.j) (hj : M.ops.length < 35184372088832) (w : Nat) :
    callV E (om E) 20 [.pref d j 0 0, .int .u32 w] h = some (.tuple [], (h.set d M.j (opsB (M.ops ++ [w]) (M.ep + 1))).set d j (M.withOps (M.ops ++ [w]) (M.ep + 1)).blk) := by
  apply he_20
  have hs := PM.set_1 M (M.ops ++ [w]) (M.ep + 1)
  have htk : (List.map u32V (M.ops ++ junk)).take M.ops.length ++ [.int .u32 w] = List.map u32V (M.ops ++ [w]) := by simp
  have hle : M.ops.length ≤ (M.ops ++ junk).length := by simp
  have hgs : ∀ B, (h.set d M.j B).get d j = some M.blk := fun B => by rw [get_set_ne (.inr (Ne.symm hne))]; exact hg
  rw [List.length_append, List.length_singleton] at hs
  unfold PM.blk opsB at *
  generalize M.ops ++ junk = L at *
  simp (disch := omega) [if_pos, if_neg, iteK_pos, iteK_neg, Try.f20, V.upIf, hg, hg2, hgs, htk, hs, -List.map_append]
def loadS (w x : Nat) : Nat := (IntKind.u32.wrap (IntKind.u32.wrap ((w : Int) * 256) + IntKind.u32.wrap x)).toNat
theorem loadS_cast (w x : Nat) : ((loadS w x : Nat) : Int) = IntKind.u32.wrap (IntKind.u32.wrap ((w : Int) * 256) + IntKind.u32.wrap x) := by
  have := u32_nonneg (IntKind.u32.wrap ((w : Int) * 256) + IntKind.u32.wrap x)
  unfold loadS; omega
def loadGo (D : List Nat) (at_ : Nat) : Nat → Nat → Nat
  | 0, w => w
  | i + 1, w => loadGo D at_ i (loadS w (D.getD ((at_ + i) % 256) 0))
/-- The word at a place of the data. -/
def loadW (D : List Nat) (at_ n : Nat) : Nat := loadGo D at_ n 0
theorem load {M : PM} (v : V) (lent) (at_ n : Nat) (hn : n ≤ 4) : pureV E (om E) 22 lent [.pcon (M.cw v) 0, .int .u32 at_, ii n] = some (u32V (loadW M.data at_ n)) := by
  apply pu_22
  unfold loadW
  generalize hR : loadGo M.data at_ n 0 = R
  simp (disch := omega) [if_pos, if_neg, iteK_pos, iteK_neg, Try.f22]
  refine loop_chg (dyn := []) (fun s : Nat × Nat => [(7, .int .u32 s.2), (8, .int .i64 ((s.1 : Int) - 1))]) (fun _ => []) (fun _ => [])
    (fun s => s.1 ≤ n ∧ R = loadGo M.data at_ s.1 s.2) (fun s => s.1) hint_22_0 (by kernel_rfl) ?_ (n, 0) ⟨by simp, hR.symm⟩ (by simp)
  clear hR
  rintro ⟨k, w⟩ ⟨hk, hf⟩ IH
  dsimp only at hk hf
  rw [lpB_eq]
  cases k with
  | zero =>
    rw [loadGo] at hf
    rw [hf]
    clear IH
    simp (disch := omega) [if_pos, if_neg, iteK_pos, iteK_neg]
  | succ k =>
    rw [loadGo] at hf
    have hi : (IntKind.u32.wrap ((at_ : Int) + k)).tmod 256 = (((at_ + k) % 256 : Nat) : Int) := by
      have h : IntKind.u32.wrap ((at_ : Int) + k) = ((at_ : Int) + k) % 4294967296 := by simp [IntKind.wrap, IntKind.signed, IntKind.bits]
      rw [h, Int.tmod_eq_emod_of_nonneg (by omega)]
      omega
    have hlt : (at_ + k) % 256 < 256 := Nat.mod_lt _ (by omega)
    generalize (at_ + k) % 256 = ix at *
    have hc := PM.cw_d M v (i := ix) hlt
    generalize M.data.getD ix 0 = D at *
    simp (disch := omega) [if_pos, if_neg, iteK_pos, iteK_neg, hi, hc]
    exact IH (k, loadS w D) _ _ ⟨by dsimp only; omega, hf⟩ (by dsimp only; omega) (by simp [loadS_cast])
def divS (w : Nat) : Nat := (IntKind.u32.wrap ((w : Int) / 256)).toNat
theorem divS_cast (w : Nat) : ((divS w : Nat) : Int) = IntKind.u32.wrap ((w : Int) / 256) := by
  have := u32_nonneg ((w : Int) / 256)
  unfold divS; omega
def byteS (w : Nat) : Nat := (IntKind.u8.wrap (w : Int)).toNat
theorem byteS_cast (w : Nat) : ((byteS w : Nat) : Int) = IntKind.u8.wrap (w : Int) := by
  have h : IntKind.u8.wrap (w : Int) = (w : Int) % 256 := by simp [IntKind.wrap, IntKind.signed, IntKind.bits]
  unfold byteS; rw [h]; omega
/-- The data behind a store of so many bytes. -/
def storeGo (at_ n : Nat) : Nat → Nat → PM → PM
  | 0, w, M => M
  | i + 1, w, M => storeGo at_ n i (divS w) (M.withData ((at_ + (n - (i + 1))) % 256) (byteS w))
def storeF (M : PM) (at_ w n : Nat) : PM := storeGo at_ n n w M
theorem store {h : Heap} {d j : Nat} {M : PM} (hg : h.get d j = some M.blk) (at_ w n : Nat) (hn : n ≤ 4) : callV E (om E) 21 [.pref d j 0 0, .int .u32 at_, .int .u32 w, ii n] h = some (.tuple [], h.set d j (storeF M at_ w n).blk) := by
  apply he_21
  unfold storeF
  generalize hR : storeGo at_ n n w M = R
  have hself := set_selfP hg
  simp (disch := omega) [if_pos, if_neg, iteK_pos, iteK_neg, Try.f21]
  refine loop_chg (dyn := []) (fun s : Nat × Nat × PM => [(2, .int .u32 s.2.1), (8, .int .i64 ((n : Int) - s.1))]) (fun s => [(d + 1, j, s.2.2.blk)]) (fun _ => [])
    (fun s => s.1 ≤ n ∧ R = storeGo at_ n s.1 s.2.1 s.2.2) (fun s => s.1) hint_21_0 (by kernel_rfl) ?_ (n, w, M) ⟨by simp, hR.symm⟩ (by simp [hself])
  clear hR
  rintro ⟨k, w, M⟩ ⟨hk, hf⟩ IH
  have hg1 := get_setP (b := M.blk) hg
  have hss := set_setP h d j
  dsimp only at hk hf
  rw [lpB_eq]
  cases k with
  | zero =>
    rw [storeGo] at hf
    rw [hf]
    clear IH
    simp (disch := omega) [if_pos, if_neg, iteK_pos, iteK_neg]
  | succ k =>
    rw [storeGo] at hf
    have hi : (IntKind.u32.wrap ((at_ : Int) + (n - ((k : Int) + 1)))).tmod 256 = (((at_ + (n - (k + 1))) % 256 : Nat) : Int) := by
      have h : ∀ x : Int, IntKind.u32.wrap x = x % 4294967296 := fun x => by simp [IntKind.wrap, IntKind.signed, IntKind.bits]
      rw [h, Int.tmod_eq_emod_of_nonneg (by omega)]
      omega
    have hlt : (at_ + (n - (k + 1))) % 256 < 256 := Nat.mod_lt _ (by omega)
    generalize (at_ + (n - (k + 1))) % 256 = ix at *
    have hs := PM.set_d M (byteS w) hlt
    have hn1 : (n : Int) - ((k : Int) + 1) + 1 = n - k := by omega
    rw [u8V, byteS_cast] at hs
    unfold PM.blk at *
    simp (disch := omega) [if_pos, if_neg, iteK_pos, iteK_neg, hi, hg1, hs, hn1]
    exact IH (k, divS w, M.withData ix (byteS w)) _ _ ⟨by dsimp only; omega, hf⟩ (by dsimp only; omega) (by simp [hss, divS_cast])
end Go.Proofs.Ytjmipgfaghjgmaa
end
section
namespace Go.Proofs.Ytjmipgfaghjgmaa
open Go Go.Sim
set_option maxRecDepth 100000
set_option linter.unusedSimpArgs false
set_option linter.unusedVariables false
/-- The machine, and what lies behind its words. -/
structure PS where
  sp : Nat
  ops : List Nat
  data : List Nat
  pc : Nat
  bad : Bool
  junk : List Nat
  ep : Nat
  len : data.length = 256
def PS.pm (S : PS) (j2 : Nat) : PM := ⟨S.sp, S.ops, S.data, S.pc, S.bad, j2, S.ep, S.len⟩
def PS.mem (S : PS) (h : Heap) (d j j2 : Nat) : Heap := (h.set d j2 (opsB (S.ops ++ S.junk) S.ep)).set d j (S.pm j2).blk
def PS.withPc (S : PS) (x : Nat) : PS := ⟨S.sp, S.ops, S.data, x, S.bad, S.junk, S.ep, S.len⟩
def PS.withBad (S : PS) (x : Bool) : PS := ⟨S.sp, S.ops, S.data, S.pc, x, S.junk, S.ep, S.len⟩
/-- There is a place for it. -/
structure Has (h : Heap) (d j j2 : Nat) : Prop where
  a : ∃ b, h.get d j = some b
  b : ∃ b, h.get d j2 = some b
  ne : j ≠ j2
theorem Has.up {h : Heap} {d j j2 : Nat} (H : Has h d j j2) (x : List Blk) : Has (x :: h) (d + 1) j j2 := ⟨by simpa using H.a, by simpa using H.b, H.ne⟩
@[simp] theorem PS.mem_up (S : PS) (h : Heap) (d j j2 : Nat) (x : List Blk) : S.mem (x :: h) (d + 1) j j2 = x :: S.mem h d j j2 := by simp [PS.mem]
theorem set_comm {h : Heap} {d j j' : Nat} {b b' : Blk} (hne : j ≠ j') : (h.set d j b).set d j' b' = (h.set d j' b').set d j b := by
  unfold Heap.set
  cases hd : h[d]? with
  | none => simp [hd, List.set_eq_of_length_le (List.getElem?_eq_none_iff.1 hd)]
  | some l =>
    have h1 := (List.getElem?_eq_some_iff.1 hd).1
    rw [List.getElem?_set_self h1, List.getElem?_set_self h1]
    simp [List.set_comm _ _ hne]
section
variable {h : Heap} {d j j2 : Nat} {S : PS}
theorem mem_get (H : Has h d j j2) : (S.mem h d j j2).get d j = some (.row (S.pm j2).cells 0 260 false false) := by
  obtain ⟨b, hb⟩ := H.a
  unfold PS.mem
  exact get_setP (b' := b) (by rw [get_set_ne (.inr (Ne.symm H.ne))]; exact hb)
theorem mem_get2 (H : Has h d j j2) : (S.mem h d j j2).get d j2 = some (opsB (S.ops ++ S.junk) S.ep) := by
  obtain ⟨b, hb⟩ := H.b
  unfold PS.mem
  rw [get_set_ne (.inr H.ne)]
  exact get_setP hb
theorem mem_mem (S' : PS) (hne : j ≠ j2) : S'.mem (S.mem h d j j2) d j j2 = S'.mem h d j j2 := by
  unfold PS.mem
  rw [set_comm (j := j) (j' := j2) hne, set_setP, set_setP]
theorem mem_self (hg : h.get d j = some (S.pm j2).blk) (hg2 : h.get d j2 = some (opsB (S.ops ++ S.junk) S.ep)) : S.mem h d j j2 = h := by
  unfold PS.mem
  rw [set_selfP hg2, set_selfP hg]
@[simp] theorem mem_pc (x : Nat) : (S.mem h d j j2).set d j (.row ((S.pm j2).withPc x).cells 0 260 false false) = (S.withPc x).mem h d j j2 := by
  unfold PS.mem
  rw [set_setP]; rfl
@[simp] theorem mem_bad (x : Bool) : (S.mem h d j j2).set d j (.row ((S.pm j2).withBad x).cells 0 260 false false) = (S.withBad x).mem h d j j2 := by
  unfold PS.mem
  rw [set_setP]; rfl
def PS.push (S : PS) (w : Nat) : PS := ⟨S.sp, S.ops ++ [w], S.data, S.pc, S.bad, [], S.ep + 1, S.len⟩
def PS.pop (S : PS) : Nat × PS := match S.ops.getLast? with
  | none => (0, S.withBad true)
  | some w => (w, ⟨S.sp, S.ops.dropLast, S.data, S.pc, S.bad, w :: S.junk, S.ep, S.len⟩)
theorem memPush (H : Has h d j j2) (hj : S.ops.length < 35184372088832) (w : Nat) : callV E (om E) 20 [.pref d j 0 0, .int .u32 w] (S.mem h d j j2) = some (.tuple [], (S.push w).mem h d j j2) := by
  rw [push (M := S.pm j2) (mem_get H) (mem_get2 H) H.ne hj w]
  congr 2
  unfold PS.mem PS.push
  dsimp only [PM.withOps, PS.pm]
  rw [List.append_nil, set_comm (j := j) (j' := j2) H.ne, set_setP, set_setP]
theorem memPop (H : Has h d j j2) (hj : S.ops.length < 2 ^ 62) : callV E (om E) 10 [.pref d j 0 0] (S.mem h d j j2) = some (u32V S.pop.1, S.pop.2.mem h d j j2) := by
  rw [call_10, popK_eq (M := S.pm j2) (mem_get H) (mem_get2 H) hj]
  unfold popF PS.pop
  dsimp only [PS.pm]
  cases hl : S.ops.getLast? with
  | none =>
    dsimp only
    congr 2
    exact mem_bad true
  | some w =>
    dsimp only
    congr 2
    have ho : S.ops.dropLast ++ (w :: S.junk) = S.ops ++ S.junk := by
      obtain ⟨l, hl'⟩ := List.getLast?_eq_some_iff.1 hl
      rw [hl']; simp
    unfold PS.mem
    dsimp only [PM.withOps]
    rw [set_setP, ho]
    rfl
theorem storeGo_keep (a n : Nat) : ∀ (k w : Nat) (M : PM), (storeGo a n k w M).j = M.j ∧ (storeGo a n k w M).ops = M.ops ∧ (storeGo a n k w M).ep = M.ep ∧ (storeGo a n k w M).sp = M.sp ∧ (storeGo a n k w M).pc = M.pc ∧ (storeGo a n k w M).bad = M.bad
  | 0, w, M => ⟨rfl, rfl, rfl, rfl, rfl, rfl⟩
  | k + 1, w, M => storeGo_keep a n k (divS w) (M.withData ((a + (n - (k + 1))) % 256) (byteS w))
theorem storeF_keep (M : PM) (a w n : Nat) : (storeF M a w n).j = M.j ∧ (storeF M a w n).ops = M.ops ∧ (storeF M a w n).ep = M.ep ∧ (storeF M a w n).sp = M.sp ∧ (storeF M a w n).pc = M.pc ∧ (storeF M a w n).bad = M.bad := storeGo_keep a n n w M
/-- The data behind a store. -/
def PS.store (S : PS) (a w n : Nat) : PS := ⟨S.sp, S.ops, (storeF (S.pm 0) a w n).data, S.pc, S.bad, S.junk, S.ep, (storeF (S.pm 0) a w n).len⟩
theorem storeGo_data (a n : Nat) : ∀ (k w : Nat) (M M' : PM), M.data = M'.data → (storeGo a n k w M).data = (storeGo a n k w M').data
  | 0, w, M, M', h => h
  | k + 1, w, M, M', h => storeGo_data a n k (divS w) _ _ (by simp only [PM.withData, h])
theorem PM.ext {M M' : PM} (h1 : M.sp = M'.sp) (h2 : M.ops = M'.ops) (h3 : M.data = M'.data) (h4 : M.pc = M'.pc) (h5 : M.bad = M'.bad) (h6 : M.j = M'.j) (h7 : M.ep = M'.ep) : M = M' := by
  cases M; cases M'
  simp only at h1 h2 h3 h4 h5 h6 h7
  subst h1 h2 h3 h4 h5 h6 h7
  rfl
theorem memStore (H : Has h d j j2) (a w n : Nat) (hn : n ≤ 4) : callV E (om E) 21 [.pref d j 0 0, .int .u32 a, .int .u32 w, ii n] (S.mem h d j j2) = some (.tuple [], (S.store a w n).mem h d j j2) := by
  rw [store (M := S.pm j2) (mem_get H) a w n hn]
  obtain ⟨k1, k2, k3, k4, k5, k6⟩ := storeF_keep (S.pm j2) a w n
  congr 2
  have e : storeF (S.pm j2) a w n = (S.store a w n).pm j2 := PM.ext k4 k2 (storeGo_data a n n w _ _ rfl) k5 k6 k1 k3
  rw [e]
  unfold PS.mem
  rw [set_setP]
  rfl
end
def sizeF (op : Nat) : Nat := if op = 29 ∨ op = 32 then 1 else if op = 30 ∨ op = 33 then 2 else 4
theorem size (lent) (op : Nat) : pureV E (om E) 23 lent [.int .u8 op] = some (ii (sizeF op)) := by
  apply pu_23
  have hc : op = 29 ∨ op = 32 ∨ op = 30 ∨ op = 33 ∨ (op ≠ 29 ∧ op ≠ 32 ∧ op ≠ 30 ∧ op ≠ 33) := by omega
  unfold sizeF
  rcases hc with rfl | rfl | rfl | rfl | hc
  case inr.inr.inr.inr => simp (disch := omega) [if_pos, if_neg, iteK_pos, iteK_neg, Try.f23, hc]
  all_goals simp (disch := omega) [if_pos, if_neg, iteK_pos, iteK_neg, Try.f23]
/-- Words. -/
def eW : Enc Nat where
  enc x := [u32V x]
  k := 1
  pos := by omega
  len := fun _ => rfl
  canon := fun _ => by simp
  flat := fun _ => by simp
  ok := fun _ => by simp
@[simp] theorem eW_k : eW.k = 1 := rfl
@[simp] theorem eW_enc (s) : eW.enc s = [u32V s] := rfl
theorem cat_eW : ∀ l : List Nat, cat eW l = l.map u32V
  | [] => rfl
  | x :: r => by rw [cat_cons, cat_eW r]; rfl
theorem get_drop (h : Heap) (d j : Nat) : Heap.get (h.drop d) 0 j = h.get d j := by
  unfold Heap.get
  rw [List.getElem?_drop]; rfl
theorem optMap_bytes {n : Nat} {h : Heap} : ∀ (D : List Nat) (r r' : List V), optMap (V.view (n + 1) h) r = some r' → optMap (V.view (n + 1) h) (D.map u8V ++ r) = some (D.map u8V ++ r')
  | [], r, r', hr => hr
  | x :: D, r, r', hr => by
    simp only [List.map_cons, List.cons_append, optMap, view_int, Option.bind_some, optMap_bytes D r r' hr]
theorem view_cells {h : Heap} {d j j2 : Nat} {S : PS} (H : Has h d j j2) : optMap (V.view 49 ((S.mem h d j j2).drop d)) (S.pm j2).cells = some ((S.pm j2).cw (lst eW S.ops)) := by
  have hg2 := mem_get2 (S := S) H
  have hd := optMap_bytes (n := 48) (h := (S.mem h d j j2).drop d) S.data [u32V S.pc, bb S.bad] [u32V S.pc, bb S.bad] (by simp only [optMap, view_int, view_bool, Option.bind_some])
  unfold PM.cells PM.cw
  simp only [PS.pm, optMap, view_int, view_sref, get_drop, hg2, opsB, Option.bind_some, if_true]
  have hcut : cutCells ((S.ops ++ S.junk).map u32V) 0 S.ops.length 1 = S.ops.map u32V := by simp [cutCells]
  rw [hd, hcut]
  simp only [Option.bind_some]
  rw [← cat_eW]
  rfl
theorem canon_bytes : ∀ (D : List Nat) (r : List V), V.canonL (D.map u8V ++ r) = D.map u8V ++ V.canonL r
  | [], r => rfl
  | x :: D, r => by
    show V.canonL (u8V x :: (D.map u8V ++ r)) = _
    simp only [V.canonL, canon_bytes D r]
    simp
theorem canon_cw (M : PM) (l : List Nat) : V.canonL (M.cw (lst eW l)) = M.cw (lst eW l) := by
  unfold PM.cw
  simp only [V.canonL, canon_bytes]
  simp
theorem memLoad {h : Heap} {d j j2 : Nat} {S : PS} (H : Has h d j j2) (a n : Nat) (hn : n ≤ 4) : callV E (om E) 22 [.pref d j 0 0, .int .u32 a, ii n] (S.mem h d j j2) = some (u32V (loadW S.data a n), S.mem h d j j2) := by
  have hg := mem_get (S := S) H
  have hl : ∀ v lent, pureV E (om E) 22 lent [.pcon ((S.pm j2).cw v) 0, .int .u32 a, ii n] = some (u32V (loadW S.data a n)) := fun v lent => load (M := S.pm j2) v lent a n hn
  have hv := view_cells (S := S) H
  have hc := canon_cw (S.pm j2) S.ops
  rw [call_22]
  simp (disch := omega) [if_pos, if_neg, iteK_pos, iteK_neg, hg, hv, hc, hl]
end Go.Proofs.Ytjmipgfaghjgmaa
end
