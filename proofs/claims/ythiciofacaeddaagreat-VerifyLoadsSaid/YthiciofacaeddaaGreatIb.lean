/-
 Package isa: the table, Check, Size, read.
 Package isa: Check, Size, read.
 Package isa: Decode.
-/
import Derived.Test.YthiciofacaeddaaGreatIa
import Derived.Test.YthiciofacaeddaaGreatMd
section
namespace Go.Proofs.YthiciofacaeddaaGreat
open Go Go.Sim
set_option maxRecDepth 100000
set_option linter.unusedSimpArgs false
set_option linter.unusedVariables false

theorem pure_eval {E : Env} {n : Nat} {f : FuncId} {lent : Bool} {args : List V} {r : V} (h : pureV E (ev E n) f lent args = some r) : pureV E (om E) f lent args = some r :=
 (pureV_fs E f lent args).mono (fun c s r hr => (om_iff E).mpr ⟨n, hr⟩) h
theorem of_map {α β : Type} {f g : α → β} {l : List α} (h : l.map f = l.map g) {x : α} (hx : x ∈ l) : f x = g x := List.map_inj_left.mp h x hx

structure Row where
 word : List UInt8
 width : Nat
 most : Nat
 takes : Nat
 gives : Nat
 kind : Nat
abbrev rowV (r : Row) : V := .agg [.str r.word, .int .i64 r.width, .int .u32 r.most, .int .i64 r.takes, .int .i64 r.gives, .int .u8 r.kind]
def rowFrom : Option V → Row
 | some (.tuple [.agg [.str w, .int _ a, .int _ b, .int _ c, .int _ d, .int _ e], _]) => ⟨w, a.toNat, b.toNat, c.toNat, d.toNat, e.toNat⟩
 | _ => ⟨[], 0, 0, 0, 0, 0⟩
def isOp (op : Nat) : Bool := decide (1 ≤ op ∧ op ≤ 59)
@[irreducible] noncomputable def rowOf (op : Nat) : Row := if isOp op then rowFrom (pureV E (ev E 60) 154 false [.int .u8 op]) else ⟨[], 0, 0, 0, 0, 0⟩
theorem Info_f : (List.range 60).map (fun (op : Nat) => pureV E (ev E 60) 154 false [.int .u8 op]) = (List.range 60).map (fun (op : Nat) => some (.tuple [rowV (rowOf op), bb (isOp op)])) := by kernel_rfl
theorem Info_t : (List.range 60).map (fun (op : Nat) => pureV E (ev E 60) 154 true [.int .u8 op]) = (List.range 60).map (fun (op : Nat) => some (.tuple [rowV (rowOf op), bb (isOp op)])) := by kernel_rfl
theorem Info (lent) (op : UInt8) : pureV E (om E) 154 lent [.int .u8 op.toNat] = some (.tuple [rowV (rowOf op.toNat), bb (isOp op.toNat)]) := by
 by_cases h60 : op.toNat < 60
 ·have h : op.toNat ∈ List.range 60 := List.mem_range.mpr h60
  cases lent
  ·exact pure_eval (of_map Info_f h)
  ·exact pure_eval (of_map Info_t h)
 ·have hb : isOp op.toNat = false := by simp [isOp]; omega
  have hr : rowOf op.toNat = ⟨[], 0, 0, 0, 0, 0⟩ := by unfold rowOf; rw [hb]; rfl
  rw [hb, hr]
  have := op.toNat_lt
  apply pu_154
  simp (disch := omega) [if_pos, if_neg, iteK_pos, iteK_neg, Tryz.f154]
theorem rowOf_all : (List.range 60).all (fun op => decide ((rowOf op).width ≤ 4 ∧ (rowOf op).most < 4294967296 ∧ (rowOf op).most < 256 ^ (rowOf op).width)) = true := by kernel_rfl
theorem rowOf_some (op : UInt8) : (rowOf op.toNat).width ≤ 4 ∧ (rowOf op.toNat).most < 4294967296 ∧ (rowOf op.toNat).most < 256 ^ (rowOf op.toNat).width := by
 by_cases h60 : op.toNat < 60
 ·have := List.all_eq_true.mp rowOf_all op.toNat (List.mem_range.mpr h60)
  simpa using this
 ·have hb : isOp op.toNat = false := by simp [isOp]; omega
  have hr : rowOf op.toNat = ⟨[], 0, 0, 0, 0, 0⟩ := by unfold rowOf; rw [hb]; rfl
  rw [hr]; simp
end Go.Proofs.YthiciofacaeddaaGreat
end
section
namespace Go.Proofs.YthiciofacaeddaaGreat
open Go Go.Sim
set_option maxRecDepth 100000
set_option linter.unusedSimpArgs false
set_option linter.unusedVariables false

structure Instr where
 op : UInt8
 arg : UInt32
 deriving DecidableEq
abbrev insV (i : Instr) : V := .agg [w8 i.op.toNat, w32 i.arg.toNat]
def eInstr : Enc Instr where
 enc i := [w8 i.op.toNat, w32 i.arg.toNat]
 k := 2
 pos := by omega
 len := fun _ => rfl
 canon := fun _ => by simp
 flat := fun _ => by simp
 ok := fun _ => by simp
@[simp] theorem eInstr_k : eInstr.k = 2 := rfl
@[simp] theorem eInstr_enc (s) : eInstr.enc s = [w8 s.op.toNat, w32 s.arg.toNat] := rfl
@[simp] theorem plain_eInstr (l : List Instr) : V.plainL (cat eInstr l) = true := cat_plain eInstr (fun _ => by simp) l
@[simp] theorem take_eInstr (l : List Instr) (n : Nat) : (cat eInstr l).take (n * 2) = cat eInstr (l.take n) := cat_take eInstr l n
@[simp] theorem cut_eInstr (l : List Instr) : cutCells (cat eInstr l) 0 l.length 2 = cat eInstr l := cut_all eInstr rfl rfl
@[simp] theorem fold_eInstr (l : List Instr) : V.scon (cat eInstr l) 0 l.length false = lst eInstr l := rfl

noncomputable def insBad (i : Instr) : Nat := if isOp i.op.toNat then (if (rowOf i.op.toNat).most < i.arg.toNat then 71 else 0) else 70
theorem IsaCheck (lent) (i : Instr) : pureV E (om E) 103 lent [insV i] = some (ii (insBad i)) := by
 apply pu_103
 obtain ⟨hw, hm, hp⟩ := rowOf_some i.op
 by_cases h1 : isOp i.op.toNat = true <;> by_cases h2 : (rowOf i.op.toNat).most < i.arg.toNat <;> simp (disch := omega) [if_pos, if_neg, iteK_pos, iteK_neg, Tryz.f103, Info, h1, h2, insBad]
theorem IsaSize (lent) (i : Instr) : pureV E (om E) 155 lent [insV i] = some (ii (if insBad i = 0 then 1 + (rowOf i.op.toNat).width else 0)) := by
 apply pu_155
 obtain ⟨hw, hm, hp⟩ := rowOf_some i.op
 have := i.arg.toNat_lt
 by_cases h : insBad i = 0 <;> simp (disch := omega) [if_pos, if_neg, iteK_pos, iteK_neg, Tryz.f155, Info, IsaCheck, h]
def argUp (l : List UInt8) (at_ : Nat) : Nat → Nat → Nat
 | 0, x => x
 | i + 1, x => argUp l at_ i (x * 256 + (l.getD (at_ + (i + 1)) 0).toNat)
theorem orI_comm (n : Nat) (a b : Int) : orI n a b = orI n b a := by unfold orI; rw [BitVec.or_comm]
theorem or_arg {x y : Int} (h : 0 ≤ x ∧ x < 16777216 ∧ 0 ≤ y ∧ y < 256) : orI 32 (x * 256) y = x * 256 + y := by
 rw [orI_comm, or_add 8 (m := 256) rfl h.2.2.1 h.2.2.2 h.1 (by omega)]; omega
noncomputable def readI (l : List UInt8) (at_ : Nat) : Except Nat (Instr × Nat) :=
 let op := l.getD at_ 0
 if isOp op.toNat then
  if l.length < at_ + 1 + (rowOf op.toNat).width then .error 72
  else let arg := argUp l at_ (rowOf op.toNat).width 0
   if (rowOf op.toNat).most < arg then .error 71 else .ok (⟨op, UInt32.ofNat arg⟩, 1 + (rowOf op.toNat).width)
 else .error 70
abbrev readV : Except Nat (Instr × Nat) → V
 | .ok (i, n) => .tuple [insV i, ii n, ii 0]
 | .error e => .tuple [insV ⟨0, 0⟩, ii 0, ii e]
theorem IsaRead (lent) (l : List UInt8) (at_ : Nat) (hl : l.length < 2 ^ 40) (h : at_ < l.length) : pureV E (om E) 175 lent [bs l, ii at_] = some (readV (readI l at_)) := by
 apply pu_175
 obtain ⟨hw, hm, hp⟩ := rowOf_some l[at_]
 by_cases h1 : isOp l[at_].toNat = true
 ·by_cases h2 : l.length < at_ + 1 + (rowOf l[at_].toNat).width
  ·simp (disch := omega) [if_pos, if_neg, iteK_pos, iteK_neg, Tryz.f175, Info, h1, h2, readI]
  ·simp (disch := omega) [if_pos, if_neg, iteK_pos, iteK_neg, Tryz.f175, Info, h1, h2]
   refine loop_use (dyn := [13]) (fun (a : Nat × Nat) => [bs l, ii at_, xx, xx, .pref 0 0 0 0, ii 0, ii 0, .pref 0 1 0 0, bb true, .pref 0 2 0 0, ii a.1, .tuple [rowV (rowOf l[at_].toNat), bb true],
     bs l, ii at_, ptr eU8 l at_ 0, w8 l[at_].toNat, .tuple [rowV (rowOf l[at_].toNat), bb true], rowV (rowOf l[at_].toNat), bb true, bb true, .bool false, xx, bs l, ii l.length, ii at_,
     .int .i64 (↑l.length - ↑at_), .int .i64 (↑l.length - ↑at_ - 1), .pref 0 1 1 0, ii (rowOf l[at_].toNat).width, .bool (decide ((l.length : Int) - ↑at_ - 1 < ↑(rowOf l[at_].toNat).width)), xx,
     bs l, ii at_, ptr eU8 l at_ 0, w8 l[at_].toNat, .agg [.int .u8 ↑l[at_].toNat, .int .u32 0], .pref 0 1 1 0, ii (rowOf l[at_].toNat).width] ++ pois 26)
    (fun a => [[.row [.int .u8 0, .int .u32 0] 0 2 true true, .row [.str (rowOf l[at_].toNat).word, .int .i64 ↑(rowOf l[at_].toNat).width,
       .int .u32 ↑(rowOf l[at_].toNat).most, .int .i64 ↑(rowOf l[at_].toNat).takes, .int .i64 ↑(rowOf l[at_].toNat).gives, .int .u8 ↑(rowOf l[at_].toNat).kind] 0 6 true true,
     .row [.int .u8 ↑l[at_].toNat, .int .u32 a.2] 0 2 true true]])
    (fun a => a.1 ≤ (rowOf l[at_].toNat).width ∧ a.2 < 256 ^ ((rowOf l[at_].toNat).width - a.1) ∧ argUp l at_ a.1 a.2 = argUp l at_ (rowOf l[at_].toNat).width 0) (fun a => a.1) hint_175_0 (by kernel_rfl) ?_ ((rowOf l[at_].toNat).width, 0) ⟨by simp, by simp, rfl⟩ (by simp)
   rintro ⟨i, x⟩ ⟨hi, hx, hf⟩ IH
   dsimp only at hi hx hf ⊢
   rw [lpB_eq]
   cases i with
   | zero =>
    have hx4 : x < 4294967296 := Nat.lt_of_lt_of_le hx (Nat.pow_le_pow_right (n := 256) (i := (rowOf l[at_].toNat).width - 0) (j := 4) (by omega) (by omega))
    clear IH
    rw [argUp] at hf
    by_cases h3 : (rowOf l[at_].toNat).most < x
    ·simp (disch := omega) [if_pos, if_neg, iteK_pos, iteK_neg, h3, readI, h1, h2, ← hf]
    ·simp (disch := omega) [if_pos, if_neg, iteK_pos, iteK_neg, h3, readI, h1, h2, ← hf]
     rw [iteK_pos (by kernel_rfl)]
     simp (disch := omega) [if_pos, if_neg, iteK_pos, iteK_neg]
     omega
   | succ i =>
    have hx4 : x < 16777216 := Nat.lt_of_lt_of_le hx (Nat.pow_le_pow_right (n := 256) (i := (rowOf l[at_].toNat).width - (i + 1)) (j := 3) (by omega) (by omega))
    rw [argUp] at hf
    have hb : (l.getD (at_ + (i + 1)) 0) = l[at_ + (i + 1)] := by rw [List.getD, List.getElem?_eq_getElem (by omega)]; rfl
    rw [hb] at hf
    have := l[at_ + (i + 1)].toNat_lt
    have hpw : 256 ^ ((rowOf l[at_].toNat).width - i) = 256 ^ ((rowOf l[at_].toNat).width - (i + 1)) * 256 := by rw [← Nat.pow_succ]; congr 1; omega
    have hN : ((at_ : Int) + ((i : Int) + 1)).toNat = at_ + (i + 1) := by omega
    simp (disch := omega) [if_pos, if_neg, iteK_pos, iteK_neg, or_arg, hN]
    refine IH (i, x * 256 + l[at_ + (i + 1)].toNat) _ _ ⟨by dsimp only; omega, by dsimp only; omega, hf⟩ (by dsimp only; omega) ?_
    simp (disch := omega) [if_pos, if_neg, iteK_pos, iteK_neg]
 ·simp (disch := omega) [if_pos, if_neg, iteK_pos, iteK_neg, Tryz.f175, Info, h1, readI]
end Go.Proofs.YthiciofacaeddaaGreat
end
section
namespace Go.Proofs.YthiciofacaeddaaGreat
open Go Go.Sim
set_option maxRecDepth 100000
set_option linter.unusedSimpArgs false
set_option linter.unusedVariables false

theorem through (l : List UInt8) : callV E (om E) 142 [bs l, .func (.func 143) [] [.pref 0 1 0 0, .pref 0 2 0 0]] [[.row [.nilslice] 0 1 true true, .row [.int .i64 0] 0 1 true true, .row [.int .i64 0] 0 1 true true]] =
  some (.func (.func 174) [] [.pref 0 3 0 0, .pref 0 4 0 0], [[.row [.nilslice] 0 1 true true, .row [ii 0] 0 1 true true, .row [ii 0] 0 1 true true, .row [lst eU8 l] 0 1 true false, .row [.func (.func 143) [] [.pref 0 1 0 0, .pref 0 2 0 0]] 0 1 false false]]) := by
 rw [call_142]
 have key : bodyV E (om E) 142 (V.upL 1 [bs l, .func (.func 143) [] [.pref 0 1 0 0, .pref 0 2 0 0]]) ([] :: [[.row [.nilslice] 0 1 true true, .row [ii 0] 0 1 true true, .row [ii 0] 0 1 true true]]) =
   some (.func (.func 174) [] [.pref 0 0 0 0, .pref 0 1 0 0], [[.row [lst eU8 l] 0 1 true false, .row [.func (.func 143) [] [.pref 1 1 0 0, .pref 1 2 0 0]] 0 1 false false], [.row [.nilslice] 0 1 true true, .row [ii 0] 0 1 true true, .row [ii 0] 0 1 true true]]) := by
  apply bo_142
  simp (disch := omega) [if_pos, if_neg, iteK_pos, iteK_neg, Tryz.f142]
 rw [key]
 simp (disch := omega) [if_pos, if_neg, iteK_pos, iteK_neg]
noncomputable def decI (l : List UInt8) (at_ n : Nat) : List Instr × Nat × Nat :=
 if at_ < l.length then
  if n < 16384 then
   match readI l at_ with
   | .error e => ([], at_, e)
   | .ok (i, k) => (i :: (decI l (at_ + k) (n + 1)).1, (decI l (at_ + k) (n + 1)).2)
  else ([], at_, 73)
 else ([], 0, 0)
termination_by 16384 - n
theorem readI_err {l : List UInt8} {a e : Nat} (h : readI l a = .error e) : 70 ≤ e ∧ e ≤ 72 := by
 unfold readI at h
 dsimp only at h
 split at h
 ·split at h
  ·simp only [Except.error.injEq] at h; omega
  ·split at h
   ·simp only [Except.error.injEq] at h; omega
   ·cases h
 ·simp only [Except.error.injEq] at h; omega
theorem readI_ok {l : List UInt8} {a : Nat} {x : Instr × Nat} (h : readI l a = .ok x) : a + x.2 ≤ l.length ∨ l.length ≤ a := by
 unfold readI at h
 dsimp only at h
 split at h
 ·split at h
  ·cases h
  ·split at h
   ·cases h
   ·simp only [Except.ok.injEq] at h; subst h; dsimp only; omega
 ·cases h
section
variable (l : List UInt8) (LB : Blk)
def decH (acc : List Instr) (a e : Int) : List Blk :=
 [.row [.sref 0 5 0 acc.length acc.length (2, false)] 0 1 false false, .row [ii a] 0 1 true true, .row [ii e] 0 1 true true, .row [lst eU8 l] 0 1 true false, .row [.func (.func 143) [] [.pref 0 1 0 0, .pref 0 2 0 0]] 0 1 false false,
  .row (cat eInstr acc) acc.length 2 true true, LB]
theorem decEnd (x : List Blk) (acc : List Instr) (a e : Int) : callV E (om E) 143 [ii a, ii e, .pref 1 1 0 0, .pref 1 2 0 0] [x, decH l LB acc 0 0] = some (.tuple [], [x, decH l LB acc a e]) := by
 rw [call_143]
 have key : bodyV E (om E) 143 (V.upL 1 [ii a, ii e, .pref 1 1 0 0, .pref 1 2 0 0]) ([] :: [x, decH l LB acc 0 0]) = some (.tuple [], [] :: [x, decH l LB acc a e]) := by
  apply bo_143
  unfold decH
  simp (disch := omega) [if_pos, if_neg, iteK_pos, iteK_neg, Tryz.f143]
 rw [key]
 simp (disch := omega) [if_pos, if_neg, iteK_pos, iteK_neg]
theorem he_through1 {args : List V} {h : Heap} {r : V × Heap} (hr : evK E (om E) 174 [] (Tryz.f174.body.getD .skip) (endK Tryz.prog Tryz.f174.results.toList heapFin) (V.upL 1 args ++ pois (43 - (V.upL 1 args).length)) ([] :: h) = some r) : callV E (om E) 174 args h = some r :=
 heap_of (dyn := []) rfl rfl rfl (by rw [E_P]; exact Tryz.func174) (by unfold Tryz.f174; rfl) (by kernel_rfl) (by rw [Tryz.ntmps174]; exact hr)
theorem decLoad1 (acc : List Instr) (a e : Int) : (decH l LB acc a e)[3]? = some (.row [lst eU8 l] 0 1 true false) := rfl
theorem decLoad2 (acc : List Instr) (a e : Int) : (decH l LB acc a e)[4]? = some (.row [.func (.func 143) [] [.pref 0 1 0 0, .pref 0 2 0 0]] 0 1 false false) := rfl
theorem through1 (hl : l.length < 2 ^ 40) (step : ∀ x acc (a : Int) (i : Instr), acc.length < 16384 → roundV (om E) 1 6 [ii a, insV i] [x, decH l LB acc 0 0] = some (bb true, [x, decH l LB (acc ++ [i]) 0 0])) :
  callV E (om E) 174 [.yield 0 6, .pref 0 3 0 0, .pref 0 4 0 0] [decH l LB [] 0 0] = some (.tuple [], [decH l LB (decI l 0 0).1 (decI l 0 0).2.1 (decI l 0 0).2.2]) := by
 apply he_through1
 generalize hD : decI l 0 0 = D
 have hD1 : D.1 = (decI l 0 0).1 := by rw [hD]
 have hD2 : D.2 = (decI l 0 0).2 := by rw [hD]
 clear hD
 simp (disch := omega) [if_pos, if_neg, iteK_pos, iteK_neg, Tryz.f174]
 refine loop_use (dyn := []) (fun (a : List Instr × Nat) => [.yield 1 6, .pref 1 3 0 0, .pref 1 4 0 0, xx, ii a.2, ii a.1.length] ++ pois 37)
  (fun a => [[], decH l LB a.1 0 0]) (fun a => a.1.length ≤ 16384 ∧ a.2 < 2 ^ 41 ∧ D.1 = a.1 ++ (decI l a.2 a.1.length).1 ∧ D.2 = (decI l a.2 a.1.length).2) (fun a => 16384 - a.1.length) hint_174_0 (by kernel_rfl) ?_ ([], 0) ⟨by simp, by simp, by simpa using hD1, by simpa using hD2⟩ (by simp)
 clear hD1 hD2
 rintro ⟨acc, at_⟩ ⟨hn, ha, h1, h2⟩ IH
 dsimp only at hn ha h1 h2 ⊢
 rw [lpB_eq]
 rw [decI] at h1 h2
 by_cases hlt : at_ < l.length
 ·rw [if_pos hlt] at h1 h2
  by_cases hn' : acc.length < 16384
  ·rw [if_pos hn'] at h1 h2
   cases hr : readI l at_ with
   | error e =>
    rw [hr] at h1 h2
    have := readI_err hr
    simp (disch := omega) [if_pos, if_neg, iteK_pos, iteK_neg, V.upIf, hlt, hn', decLoad1, decLoad2, IsaRead, hr, decEnd]
    rw [h1, h2]; simp
   | ok q =>
    obtain ⟨i, k⟩ := q
    rw [hr] at h1 h2
    have := readI_ok hr
    dsimp only at this
    simp (disch := omega) [if_pos, if_neg, iteK_pos, iteK_neg, V.upIf, hlt, hn', decLoad1, decLoad2, IsaRead, hr, step]
    refine IH (acc ++ [i], at_ + k) _ _ ⟨by simp; omega, by dsimp only; omega, by simp [h1], by simp [h2]⟩ (by simp; omega) (by simp)
  ·rw [if_neg hn'] at h1 h2
   have hn2 : acc.length = 16384 := by omega
   simp (disch := omega) [if_pos, if_neg, iteK_pos, iteK_neg, V.upIf, hlt, hn2, decLoad1, decLoad2, decEnd]
   rw [h1, h2]; simp
 ·rw [if_neg hlt] at h1 h2
  simp (disch := omega) [if_pos, if_neg, iteK_pos, iteK_neg, V.upIf, hlt, decLoad1, decLoad2, decEnd]
  rw [h1, h2]; simp
theorem through1' (hl : l.length < 2 ^ 40) (step : ∀ x acc (a : Int) (i : Instr), acc.length < 16384 → roundV (om E) 1 6 [ii a, insV i] [x, decH l LB acc 0 0] = some (bb true, [x, decH l LB (acc ++ [i]) 0 0])) :
  callV E (om E) 174 [.yield 0 6, .pref 0 3 0 0, .pref 0 4 0 0] [[.row [.sref 0 5 0 0 0 (2, false)] 0 1 false false, .row [ii 0] 0 1 true true, .row [ii 0] 0 1 true true, .row [lst eU8 l] 0 1 true false, .row [.func (.func 143) [] [.pref 0 1 0 0, .pref 0 2 0 0]] 0 1 false false,
  .row [] 0 2 true true, LB]] = some (.tuple [], [decH l LB (decI l 0 0).1 (decI l 0 0).2.1 (decI l 0 0).2.2]) := through1 l LB hl step
end
abbrev decV (d : List Instr × Nat × Nat) : V := if d.2.2 = 0 then .tuple [lst eInstr d.1, ii 0, ii 0] else .tuple [lst eInstr [], ii d.2.1, ii d.2.2]
theorem IsaDecode (lent) (l : List UInt8) (hl : l.length < 2 ^ 40) : pureV E (om E) 87 lent [bs l] = some (decV (decI l 0 0)) := by
 apply pu_87
 simp (disch := omega) [if_pos, if_neg, iteK_pos, iteK_neg, Tryz.f87, through]
 refine range_of hint_87_0 ?_
 simp (disch := omega) [if_pos, if_neg, iteK_pos, iteK_neg]
 rw [through1' l _ hl ?step]
 case step =>
  intro x acc a i hacc
  refine round_eq (dyn := []) rfl rfl (by simp; rfl) (by kernel_rfl) (by kernel_rfl) ?_
  unfold decH
  simp (disch := omega) [if_pos, if_neg, iteK_pos, iteK_neg, cat_append, cat_cons]
 generalize decI l 0 0 = D
 obtain ⟨acc, at_, e⟩ := D
 unfold decH
 by_cases he : e = 0
 ·simp (disch := omega) [if_pos, if_neg, iteK_pos, iteK_neg, he]
 ·simp (disch := omega) [if_pos, if_neg, iteK_pos, iteK_neg, he]
end Go.Proofs.YthiciofacaeddaaGreat
end
