/-
 The functions of package little, and of Go's slices, as the machine of values computes them.
 Plain facts: spans.
 The functions of package little, second part.
 slices.Grow, slices.Concat; package image's small functions.
 slices.Grow and slices.Concat of spans; image.headed.
 image.nameMay, image.exports.
-/
import Derived.Test.YthiciofacaeddaaGreatNb
import Derived.Test.YthiciofacaeddaaGreatFa
import Derived.Test.YthiciofacaeddaaGreatMd
section
namespace Go.Proofs.YthiciofacaeddaaGreat
open Go Go.Sim
set_option maxRecDepth 100000
set_option linter.unusedSimpArgs false
set_option linter.unusedVariables false

theorem lend (lent) (a n : UInt32) : pureV E (om E) 140 lent [.agg [w32 a.toNat, w32 n.toNat]] = some (w64 (a.toNat + n.toNat)) := by
 apply pu_140
 simp (disch := omega) [Tryz.f140]
theorem width32 (lent) : pureV E (om E) 145 lent [] = some (ii 4) := by
 apply pu_145
 simp (disch := omega) [Tryz.f145]
 repeat
  apply loop_next (dyn := []) hint_145_0 (by kernel_rfl)
  simp (disch := omega)
  rw [lpB_eq]
  simp (disch := omega)
theorem width8 (lent) : pureV E (om E) 188 lent [] = some (ii 1) := by
 apply pu_188
 simp (disch := omega) [Tryz.f188]
 repeat
  apply loop_next (dyn := []) hint_188_0 (by kernel_rfl)
  simp (disch := omega)
  rw [lpB_eq]
  simp (disch := omega)
attribute [local simp] width32 width8 lend
theorem take32 (lent) {l : List UInt8} {a b c d : UInt8} {r : List UInt8} (h : l = a :: b :: c :: d :: r) : pureV E (om E) 146 lent [bs l] = some (w32 (word4 a b c d).toNat) := by
 apply pu_146
 have := a.toNat_lt; have := b.toNat_lt; have := c.toNat_lt; have := d.toNat_lt
 subst h
 simp (disch := omega) [Tryz.f146]
 iterate 5
  apply loop_next (dyn := []) hint_146_0 (by kernel_rfl)
  simp (disch := omega)
  rw [lpB_eq]
  simp (disch := omega) [if_pos, if_neg, or64_0, or64_8, or64_16, or64_24]
 rw [word4_int]
theorem has32 (lent) (l : List UInt8) (at_ : Int) (hl : l.length < 2 ^ 62) : pureV E (om E) 176 lent [bs l, ii at_] = some (bb (decide (0 ≤ at_ ∧ at_ + 4 ≤ l.length))) := by
 apply pu_176
 by_cases h : 0 ≤ at_
 ·simp (disch := omega) [Tryz.f176, h]
  omega
 ·simp (disch := omega) [Tryz.f176, h]
attribute [local simp] has32
theorem At32 (lent) (l : List UInt8) (at_ : Nat) (hl : l.length < 2 ^ 62) (h : at_ + 4 ≤ l.length) : pureV E (om E) 144 lent [bs l, ii at_] = some (.tuple [w32 (wordAt l at_).toNat, ii 0]) := by
 apply pu_144
 obtain ⟨a, b, c, d, r, hd⟩ := drop4 h
 have hw : wordAt l at_ = word4 a b c d := by simp [wordAt, hd]
 have ht : (l.drop at_).take (l.length - at_) = l.drop at_ := List.take_of_length_le (by simp)
 simp (disch := omega) [if_pos, if_neg, iteK_pos, iteK_neg, Tryz.f144, ht, take32 _ hd, hw]
theorem lay32 (t : List UInt8) (x : UInt32) (B : List Blk) (r : Heap) (j ep : Nat) (hj : B[j]? = some (.row (cat eU8 t) ep 1 true true)) (ht : t.length < 2 ^ 44) :
  callV E (om E) 162 [.sref 0 j 0 t.length ep (1, false), w32 x.toNat] (B :: r) =
   some (.sref 0 j 0 (t.length + 4) (ep + 4) (1, false), B.set j (.row (cat eU8 (t ++ bytes4 x)) (ep + 4) 1 true true) :: r) := by
 rw [call_162]
 obtain ⟨hjl, hj'⟩ := List.getElem?_eq_some_iff.1 hj
 have hx := x.toNat_lt
 have key : ∃ T, bodyV E (om E) 162 (V.upL 1 [V.sref 0 j 0 t.length ep (1, false), w32 x.toNat]) ([] :: B :: r) = some (.sref 1 j 0 (t.length + 4) (ep + 4) (1, false), T :: B.set j (.row (cat eU8 (t ++ bytes4 x)) (ep + 4) 1 true true) :: r) := by
  refine ⟨[], ?_⟩
  ·apply bo_162
   simp (disch := omega) [if_pos, if_neg, iteK_pos, iteK_neg, Tryz.f162]
   iterate 5
    apply loop_next (dyn := []) hint_162_0 (by kernel_rfl)
    simp (disch := omega) [if_pos, if_neg, iteK_pos, iteK_neg]
    rw [lpB_eq]
    simp (disch := omega) [if_pos, if_neg, iteK_pos, iteK_neg, hj', Int.fdiv_eq_ediv_of_nonneg]
   have h3 : (x.toNat : Int) / 16777216 % 256 = (x.toNat : Int) / 16777216 := by omega
   simp [List.take_of_length_le, cat_append, bytes4, cat_cons, IntKind.wrap_u8, h3]
 obtain ⟨T, hT⟩ := key
 rw [hT]
 simp
theorem lay8 (t : List UInt8) (x : UInt8) (B : List Blk) (r : Heap) (j ep : Nat) (hj : B[j]? = some (.row (cat eU8 t) ep 1 true true)) (ht : t.length < 2 ^ 44) :
  callV E (om E) 163 [.sref 0 j 0 t.length ep (1, false), w8 x.toNat] (B :: r) =
   some (.sref 0 j 0 (t.length + 1) (ep + 1) (1, false), B.set j (.row (cat eU8 (t ++ [x])) (ep + 1) 1 true true) :: r) := by
 rw [call_163]
 obtain ⟨hjl, hj'⟩ := List.getElem?_eq_some_iff.1 hj
 have hx := x.toNat_lt
 have key : ∃ T, bodyV E (om E) 163 (V.upL 1 [V.sref 0 j 0 t.length ep (1, false), w8 x.toNat]) ([] :: B :: r) = some (.sref 1 j 0 (t.length + 1) (ep + 1) (1, false), T :: B.set j (.row (cat eU8 (t ++ [x])) (ep + 1) 1 true true) :: r) := by
  refine ⟨[], ?_⟩
  ·apply bo_163
   simp (disch := omega) [if_pos, if_neg, iteK_pos, iteK_neg, Tryz.f163]
   iterate 2
    apply loop_next (dyn := []) hint_163_0 (by kernel_rfl)
    simp (disch := omega) [if_pos, if_neg, iteK_pos, iteK_neg]
    rw [lpB_eq]
    simp (disch := omega) [if_pos, if_neg, iteK_pos, iteK_neg, hj', Int.fdiv_eq_ediv_of_nonneg]
   simp [List.take_of_length_le, cat_append, cat_cons]
 obtain ⟨T, hT⟩ := key
 rw [hT]
 simp
theorem Put32 (lent) (l : List UInt32) (hl : l.length < 2 ^ 40) : pureV E (om E) 117 lent [ws l] = some (bs (words l)) := by
 apply pu_117
 simp (disch := omega) [if_pos, if_neg, iteK_pos, iteK_neg, Tryz.f117]
 refine loop_use (dyn := []) (fun (a : Nat × List UInt8 × Nat) => [ws l, xx, .nilslice, .sref 0 0 0 a.2.1.length a.2.2 (1, false), xx, xx, ws l, ii l.length, ii a.1] ++ pois 8)
  (fun a => [[.row (cat eU8 a.2.1) a.2.2 1 true true]]) (fun a => a.1 ≤ l.length ∧ a.2.1 = words (l.take a.1)) (fun a => l.length - a.1) hint_117_0 (by kernel_rfl) ?_ (0, [], 0) ⟨by simp, rfl⟩ (by simp)
 rintro ⟨i, acc, e⟩ ⟨hi, hacc⟩ IH
 rw [lpB_eq]
 dsimp only at hi hacc ⊢
 by_cases hlt : i < l.length
 ·have h1 := words_length (l.take i)
  rw [← hacc] at h1
  have h2 := List.length_take_le i l
  have hlay := lay32 acc l[i] [.row (cat eU8 acc) e 1 true true] [] 0 e rfl (by omega)
  simp (disch := omega) [if_pos, if_neg, iteK_pos, iteK_neg, hlt, hlay]
  refine IH (i + 1, acc ++ bytes4 l[i], e + 4) _ _ ⟨by dsimp only; omega, ?_⟩ (by dsimp only; omega) (by simp)
  dsimp only
  rw [take_snoc hlt, words_append, hacc]; simp [words]
 ·obtain rfl : i = l.length := by omega
  rw [List.take_length] at hacc; subst hacc
  simp (disch := omega) [if_pos, if_neg, iteK_pos, iteK_neg]
theorem Put8 (lent) (l : List UInt8) (hl : l.length < 2 ^ 40) : pureV E (om E) 118 lent [bs l] = some (bs l) := by
 apply pu_118
 simp (disch := omega) [if_pos, if_neg, iteK_pos, iteK_neg, Tryz.f118]
 refine loop_use (dyn := []) (fun (a : Nat × List UInt8 × Nat) => [bs l, xx, .nilslice, .sref 0 0 0 a.2.1.length a.2.2 (1, false), xx, xx, bs l, ii l.length, ii a.1] ++ pois 8)
  (fun a => [[.row (cat eU8 a.2.1) a.2.2 1 true true]]) (fun a => a.1 ≤ l.length ∧ a.2.1 = l.take a.1) (fun a => l.length - a.1) hint_118_0 (by kernel_rfl) ?_ (0, [], 0) ⟨by simp, rfl⟩ (by simp)
 rintro ⟨i, acc, e⟩ ⟨hi, hacc⟩ IH
 rw [lpB_eq]
 dsimp only at hi hacc ⊢
 by_cases hlt : i < l.length
 ·have h2 := List.length_take_le i l
  rw [← hacc] at h2
  have hlay := lay8 acc l[i] [.row (cat eU8 acc) e 1 true true] [] 0 e rfl (by omega)
  simp (disch := omega) [if_pos, if_neg, iteK_pos, iteK_neg, hlt, hlay]
  refine IH (i + 1, acc ++ [l[i]], e + 1) _ _ ⟨by dsimp only; omega, ?_⟩ (by dsimp only; omega) (by simp)
  dsimp only
  rw [take_snoc hlt, hacc]
 ·obtain rfl : i = l.length := by omega
  rw [List.take_length] at hacc; subst hacc
  simp (disch := omega) [if_pos, if_neg, iteK_pos, iteK_neg]
theorem lay32nil (x : UInt32) (h : Heap) : callV E (om E) 162 [.nilslice, w32 x.toNat] h = some (bs (bytes4 x), h) := by
 rw [call_162]
 have hx := x.toNat_lt
 have key : bodyV E (om E) 162 (V.upL 1 [V.nilslice, w32 x.toNat]) ([] :: h) = some (.sref 0 0 0 4 4 (1, false), [.row (cat eU8 (bytes4 x)) 4 1 true true] :: h) := by
  apply bo_162
  simp (disch := omega) [if_pos, if_neg, iteK_pos, iteK_neg, Tryz.f162]
  iterate 5
   apply loop_next (dyn := []) hint_162_0 (by kernel_rfl)
   simp (disch := omega) [if_pos, if_neg, iteK_pos, iteK_neg]
   rw [lpB_eq]
   simp (disch := omega) [if_pos, if_neg, iteK_pos, iteK_neg, Int.fdiv_eq_ediv_of_nonneg]
  have h3 : (x.toNat : Int) / 16777216 % 256 = (x.toNat : Int) / 16777216 := by omega
  simp [List.take_of_length_le, bytes4, cat_cons, IntKind.wrap_u8, h3]
 rw [key]
 have : (bytes4 x).length = 4 := rfl
 have h2 := cut_eU8 (bytes4 x)
 rw [this] at h2
 simp [h2, fold_lst eU8 this.symm]
theorem Sum (lent) (l : List UInt8) (hl : l.length < 2 ^ 40) : pureV E (om E) 62 lent [bs l] = some (w32 (adler l).toNat) := by
 apply pu_62
 simp (disch := omega) [if_pos, if_neg, iteK_pos, iteK_neg, Tryz.f62]
 refine loop_use (dyn := []) (fun (a : Nat × Int × Int) => [bs l, xx, w32 0, w32 a.2.1, w32 a.2.2, xx, xx, bs l, ii l.length, ii a.1] ++ pois 17)
  (fun _ => [[]]) (fun a => a.1 ≤ l.length ∧ a.2 = sums (l.take a.1) (1, 0)) (fun a => l.length - a.1) hint_62_0 (by kernel_rfl) ?_ (0, 1, 0) ⟨by simp, rfl⟩ (by simp)
 rintro ⟨i, lo, hi⟩ ⟨h1, h2⟩ IH
 rw [lpB_eq]
 dsimp only at h1 h2 ⊢
 have hf := sums_fits (l.take i) (1, 0) (by simp)
 rw [← h2] at hf
 dsimp only at hf
 by_cases hlt : i < l.length
 ·have hb := toNat_lt8 l[i]
  simp (disch := omega) [if_pos, if_neg, iteK_pos, iteK_neg, hlt]
  refine IH (i + 1, (lo + l[i].toNat) % 65521, (hi + (lo + l[i].toNat) % 65521) % 65521) _ _ ⟨by dsimp only; omega, ?_⟩ (by dsimp only; omega) (by simp)
  dsimp only
  rw [take_snoc hlt, sums_append, ← h2]; rfl
 ·obtain rfl : i = l.length := by omega
  rw [List.take_length] at h2
  simp (disch := omega) [if_pos, if_neg, iteK_pos, iteK_neg]
  rw [adler_toNat, ← h2]
theorem Within (lent) (a n t : UInt32) : pureV E (om E) 137 lent [.agg [w32 a.toNat, w32 n.toNat], w32 t.toNat] = some (bb (decide (a.toNat + n.toNat ≤ t.toNat))) := by
 apply pu_137
 simp (disch := omega) [if_pos, if_neg, iteK_pos, iteK_neg, Tryz.f137]
 omega
theorem Lap (lent) (a n b m : UInt32) : pureV E (om E) 172 lent [.agg [w32 a.toNat, w32 n.toNat], .agg [w32 b.toNat, w32 m.toNat]] = some (bb (decide (0 < n.toNat ∧ 0 < m.toNat ∧ a.toNat < b.toNat + m.toNat ∧ b.toNat < a.toNat + n.toNat))) := by
 apply pu_172
 by_cases h1 : 0 < n.toNat <;> by_cases h2 : 0 < m.toNat <;> by_cases h3 : a.toNat < b.toNat + m.toNat <;> simp (disch := omega) [if_pos, if_neg, iteK_pos, iteK_neg, Tryz.f172, h1, h2, h3]
 all_goals omega
end Go.Proofs.YthiciofacaeddaaGreat
end
section
namespace Go.Proofs.YthiciofacaeddaaGreat
open Go Go.Sim

structure Span where
 place : UInt32
 len : UInt32
 deriving DecidableEq
def Span.stop (s : Span) : Nat := s.place.toNat + s.len.toNat
def eSpan : Enc Span where
 enc s := [w32 s.place.toNat, w32 s.len.toNat]
 k := 2
 pos := by omega
 len := fun _ => rfl
 canon := fun _ => by simp
 flat := fun _ => by simp
 ok := fun _ => by simp
@[simp] theorem eSpan_k : eSpan.k = 2 := rfl
@[simp] theorem eSpan_enc (s) : eSpan.enc s = [w32 s.place.toNat, w32 s.len.toNat] := rfl
@[simp] theorem plain_eSpan (l : List Span) : V.plainL (cat eSpan l) = true := cat_plain eSpan (fun _ => by simp) l
@[simp] theorem take_eSpan (l : List Span) (n : Nat) : (cat eSpan l).take (n * 2) = cat eSpan (l.take n) := cat_take eSpan l n
@[simp] theorem cut_eSpan (l : List Span) : cutCells (cat eSpan l) 0 l.length 2 = cat eSpan l := cut_all eSpan rfl rfl
@[simp] theorem fold_eSpan (l : List Span) : V.scon (cat eSpan l) 0 l.length false = lst eSpan l := rfl
abbrev spv (s : Span) : V := .agg [w32 s.place.toNat, w32 s.len.toNat]

def lap (a b : Span) : Bool := decide (0 < a.len.toNat ∧ 0 < b.len.toNat ∧ a.place.toNat < b.place.toNat + b.len.toNat ∧ b.place.toNat < a.place.toNat + a.len.toNat)
def firstLap (s : Span) (l : List Span) (j : Nat) : Option Nat :=
 if h : j < l.length then (if lap s l[j] then some j else firstLap s l (j + 1)) else none
termination_by l.length - j
def lapFrom (l : List Span) (i : Nat) : Option (Nat × Nat) :=
 if h : i < l.length then (match firstLap l[i] (l.take i) 0 with | some j => some (i, j) | none => lapFrom l (i + 1)) else none
termination_by l.length - i
def apartV' (o : Option (Nat × Nat)) : V := match o with | some (i, j) => .tuple [ii i, ii j, bb false] | none => .tuple [ii 0, ii 0, bb true]

def layFrom (place : Nat) : List UInt32 → Option (List Span)
 | [] => some []
 | n :: r => if place + n.toNat > 4294967295 then none else (layFrom (place + n.toNat) r).map fun l => ⟨UInt32.ofNat place, n⟩ :: l
def wordsOf : List UInt8 → List UInt32
 | a :: b :: c :: d :: r => word4 a b c d :: wordsOf r
 | _ => []
@[simp] theorem cloneL_eU8 (L : Nat) (l : List UInt8) (h : Heap) : cloneWL L 1 [bs l] h = if L < l.length then none else if l = [] then some (.scon [] 0 0 false, h) else
  some (.sref 0 (h.top.length + 1) 0 l.length 0 (1, false), (Go.Sim.newRow (h.push (.row [] 0 1 true true)) (cat eU8 l) 1).2) := clone_lst eU8 l h 1 rfl
end Go.Proofs.YthiciofacaeddaaGreat
end
section
namespace Go.Proofs.YthiciofacaeddaaGreat
open Go Go.Sim
set_option maxRecDepth 100000
set_option linter.unusedSimpArgs false
set_option linter.unusedVariables false
attribute [local simp] width32 width8 lend has32

theorem With32_body (l : List UInt8) (n : Nat) (x : UInt32) (hl : l.length < 2 ^ 40) (h : n + 4 ≤ l.length) : bodyV E (om E) 164 [bs l, ii n, w32 x.toNat] [[]] =
  some (.tuple [.sref 0 1 0 l.length 0 (1, false), ii 0], [[.row [] 0 1 true true, .row (cat eU8 (with4 l n x)) 0 1 true true]]) := by
 apply bo_164
 have hne : l ≠ [] := by intro h0; simp [h0] at h
 have hlen := with4_length x h
 have hc : cat eU8 (l.take n) ++ (cat eU8 (bytes4 x) ++ cat eU8 (l.drop (n + 4))) = cat eU8 (with4 l n x) := by simp [with4, cat_append]
 simp (disch := omega) [if_pos, if_neg, iteK_pos, iteK_neg, Tryz.f164, lay32nil, hne, hc]
theorem Cut_body (l : List UInt8) (s : Span) (hl : l.length < 2 ^ 40) (h : s.stop ≤ l.length) : bodyV E (om E) 86 [bs l, spv s] [[]] =
  some (if s.len.toNat = 0 then (.tuple [.scon [] 0 0 false, ii 0], [[.row [w32 s.place.toNat, w32 s.len.toNat] 0 2 true true]]) else (.tuple [.sref 0 2 0 s.len.toNat 0 (1, false), ii 0], [[.row [w32 s.place.toNat, w32 s.len.toNat] 0 2 true true, .row [] 0 1 true true, .row (cat eU8 ((l.drop s.place.toNat).take s.len.toNat)) 0 1 true true]])) := by
 apply bo_86
 unfold Span.stop at h
 have := s.place.toNat_lt; have := s.len.toNat_lt
 have hlen : s.len.toNat = ((l.drop s.place.toNat).take s.len.toNat).length := by simp; omega
 have hz : ((l.drop s.place.toNat).take s.len.toNat = []) = (s.len.toNat = 0) := by rw [← List.length_eq_zero_iff, ← hlen]
 by_cases h0 : s.len.toNat = 0
 ·have hz' := h0
  rw [← hz] at hz'
  rw [if_pos h0]
  simp (disch := omega) [if_pos, if_neg, iteK_pos, iteK_neg, Tryz.f86, hz']
 ·rw [if_neg h0]
  simp (disch := omega) [if_pos, if_neg, iteK_pos, iteK_neg, Tryz.f86, hz]
theorem Cut (l : List UInt8) (s : Span) (hl : l.length < 2 ^ 40) (h : s.stop ≤ l.length) (B : List Blk) (r : Heap) : callV E (om E) 86 [bs l, spv s] (B :: r) =
  some (if s.len.toNat = 0 then (.tuple [.scon [] 0 0 false, ii 0], (B ++ [.row [w32 s.place.toNat, w32 s.len.toNat] 0 2 true true]) :: r) else (.tuple [.sref 0 (B.length + 2) 0 s.len.toNat 0 (1, false), ii 0], (B ++ [.row [w32 s.place.toNat, w32 s.len.toNat] 0 2 true true, .row [] 0 1 true true, .row (cat eU8 ((l.drop s.place.toNat).take s.len.toNat)) 0 1 true true]) :: r)) := by
 rw [call_86]
 have := Cut_body l s hl h
 by_cases h0 : s.len.toNat = 0
 ·rw [if_pos h0] at this ⊢
  simp (disch := omega) [if_pos, if_neg, iteK_pos, iteK_neg, this]
 ·rw [if_neg h0] at this ⊢
  simp (disch := omega) [if_pos, if_neg, iteK_pos, iteK_neg, this]
theorem Apart (lent) (l : List Span) (hl : l.length < 2 ^ 40) : pureV E (om E) 138 lent [lst eSpan l] = some (apartV' (lapFrom l 0)) := by
 apply pu_138
 have Lap' : ∀ lent (a b : Span), pureV E (om E) 172 lent [.agg [w32 a.place.toNat, w32 a.len.toNat], .agg [w32 b.place.toNat, w32 b.len.toNat]] = some (bb (lap a b)) := fun lent a b => Lap lent _ _ _ _
 simp (disch := omega) [if_pos, if_neg, iteK_pos, iteK_neg, Tryz.f138]
 refine loop_use (dyn := []) (fun (i : Nat) => [lst eSpan l, xx, xx, xx, xx, xx, xx, xx, xx, lst eSpan l, ii l.length, ii i] ++ pois 20)
  (fun _ => [[]]) (fun i => i ≤ l.length ∧ lapFrom l i = lapFrom l 0) (fun i => l.length - i) hint_138_0 (by kernel_rfl) ?_ 0 ⟨by simp, rfl⟩ (by simp)
 rintro i ⟨hi, hf⟩ IH
 rw [lpB_eq]
 by_cases hlt : i < l.length
 ·simp (disch := omega) [if_pos, if_neg, iteK_pos, iteK_neg, hlt]
  refine loop_use (dyn := []) (fun (j : Nat) => [lst eSpan l, xx, xx, xx, xx, ii i, .pref 0 0 0 0, xx, xx, lst eSpan l, ii l.length, ii i, bb true, ii i, ptr eSpan l i 0, spv l[i], lst eSpan l, ii i, lst eSpan (l.take i), ii i, ii j] ++ pois 11)
   (fun _ => [[.row [w32 l[i].place.toNat, w32 l[i].len.toNat] 0 2 true true]]) (fun j => j ≤ i ∧ firstLap l[i] (l.take i) j = firstLap l[i] (l.take i) 0) (fun j => i - j) hint_138_1 (by kernel_rfl) ?_ 0 ⟨by simp, rfl⟩ (by simp)
  rintro j ⟨hj, hg⟩ IH2
  rw [lpB_eq]
  by_cases hjt : j < i
  ·have hjl : j < (l.take i).length := by simp; omega
   rw [firstLap, dif_pos hjl] at hg
   by_cases hlap : lap l[i] l[j] = true
   ·have hjj : lap l[i] (l.take i)[j] = true := by simpa using hlap
    rw [if_pos hjj] at hg
    rw [lapFrom, dif_pos hlt, ← hg] at hf
    simp (disch := omega) [if_pos, if_neg, iteK_pos, iteK_neg, hjt, Lap', hlap, ← hf, apartV']
   ·have hjj : ¬ lap l[i] (l.take i)[j] = true := by simpa using hlap
    rw [if_neg hjj] at hg
    simp (disch := omega) [if_pos, if_neg, iteK_pos, iteK_neg, hjt, Lap', hlap]
    exact IH2 (j + 1) _ _ ⟨by omega, hg⟩ (by omega) (by simp)
  ·have hjl : ¬ j < (l.take i).length := by simp; omega
   rw [firstLap, dif_neg hjl] at hg
   rw [lapFrom, dif_pos hlt, ← hg] at hf
   simp (disch := omega) [if_pos, if_neg, iteK_pos, iteK_neg, hjt]
   exact IH (i + 1) _ _ ⟨by omega, hf⟩ (by omega) (by simp)
 ·obtain rfl : i = l.length := by omega
  rw [lapFrom, dif_neg hlt] at hf
  rw [← hf]
  simp (disch := omega) [if_pos, if_neg, iteK_pos, iteK_neg, apartV']
theorem Lay (lent) (p : UInt32) (l : List UInt32) (hl : l.length < 2 ^ 20) : pureV E (om E) 119 lent [w32 p.toNat, ws l] = some (match layFrom p.toNat l with | some r => .tuple [lst eSpan r, ii 0] | none => .tuple [lst eSpan [], ii 20]) := by
 apply pu_119
 have hp := p.toNat_lt
 simp (disch := omega) [if_pos, if_neg, iteK_pos, iteK_neg, Tryz.f119]
 refine loop_use (dyn := []) (fun (a : Nat × Nat × List Span × Nat) => [w32 p.toNat, ws l, xx, xx, xx, xx, w64 a.2.1, .sref 0 0 0 a.2.2.1.length a.2.2.2 (2, false), xx, xx, w32 p.toNat, w64 p.toNat, ws l, ii l.length, ii a.1] ++ pois 18)
  (fun a => [[.row (cat eSpan a.2.2.1) a.2.2.2 2 true true]]) (fun a => a.1 ≤ l.length ∧ a.2.1 ≤ 4294967295 ∧ a.2.2.1.length = a.1 ∧ layFrom p.toNat l = (layFrom a.2.1 (l.drop a.1)).map (a.2.2.1 ++ ·)) (fun a => l.length - a.1) hint_119_0 (by kernel_rfl) ?_ (0, p.toNat, [], 0) ⟨by simp, by dsimp only; omega, rfl, by simp⟩ (by simp)
 rintro ⟨i, at_, acc, e⟩ ⟨hi, ha, hacc, hf⟩ IH
 rw [lpB_eq]
 dsimp only at hi ha hacc hf ⊢
 by_cases hlt : i < l.length
 ·have hx := l[i].toNat_lt
  rw [List.drop_eq_getElem_cons hlt, layFrom] at hf
  by_cases hbig : at_ + l[i].toNat > 4294967295
  ·rw [if_pos hbig] at hf
   rw [hf]
   simp (disch := omega) [if_pos, if_neg, iteK_pos, iteK_neg, hlt]
  ·rw [if_neg hbig] at hf
   have ho : (UInt32.ofNat at_).toNat = at_ := by rw [UInt32.toNat_ofNat']; omega
   simp (disch := omega) [if_pos, if_neg, iteK_pos, iteK_neg, hlt]
   refine IH (i + 1, at_ + l[i].toNat, acc ++ [⟨UInt32.ofNat at_, l[i]⟩], e + 1) _ _ ⟨by dsimp only; omega, by dsimp only; omega, by simp [hacc], ?_⟩ (by dsimp only; omega) (by simp [cat_append, cat_cons, ho])
   dsimp only
   rw [hf]
   cases layFrom (at_ + l[i].toNat) (l.drop (i + 1)) <;> simp
 ·obtain rfl : i = l.length := by omega
  simp (disch := omega) [if_pos, if_neg, iteK_pos, iteK_neg, hf, layFrom]
theorem All32 (lent) (l : List UInt8) (hl : l.length < 2 ^ 40) (h : l.length % 4 = 0) : pureV E (om E) 89 lent [bs l] = some (.tuple [ws (wordsOf l), ii 0]) := by
 apply pu_89
 simp (disch := omega) [if_pos, if_neg, iteK_pos, iteK_neg, Tryz.f89]
 refine loop_use (dyn := []) (fun (a : Nat × List UInt32 × Nat) => [bs l, xx, .nilslice, ii 0, ii 4, .sref 0 0 0 a.2.1.length a.2.2 (1, false), ii a.1, ii 4, bs l, ii l.length, ii 4, ii 0, bb false] ++ pois 15)
  (fun a => [[.row (cat eU32 a.2.1) a.2.2 1 true true]]) (fun a => a.1 ≤ l.length ∧ a.1 % 4 = 0 ∧ a.2.1.length = a.1 / 4 ∧ wordsOf l = a.2.1 ++ wordsOf (l.drop a.1)) (fun a => l.length - a.1) hint_89_0 (by kernel_rfl) ?_ (0, [], 0) ⟨by simp, rfl, rfl, by simp⟩ (by simp [show (l.length : Int) % 4 = 0 by omega])
 rintro ⟨i, acc, e⟩ ⟨hi, h4, hacc, hf⟩ IH
 rw [lpB_eq]
 dsimp only at hi h4 hacc hf ⊢
 by_cases hlt : i < l.length
 ·obtain ⟨a, b, c, d, r, hd⟩ := drop4 (l := l) (n := i) (by omega)
  have ht : (l.drop i).take (l.length - i) = l.drop i := List.take_of_length_le (by simp)
  simp (disch := omega) [if_pos, if_neg, iteK_pos, iteK_neg, hlt, ht, take32 _ hd]
  have hd4 : l.drop (i + 4) = r := by rw [← List.drop_drop, hd]; rfl
  refine IH (i + 4, acc ++ [word4 a b c d], e + 1) _ _ ⟨by dsimp only; omega, by dsimp only; omega, by simp; omega, ?_⟩ (by dsimp only; omega) (by simp [cat_append, cat_cons])
  dsimp only
  rw [hf, hd, hd4, wordsOf]; simp
 ·obtain rfl : i = l.length := by omega
  simp (disch := omega) [if_pos, if_neg, iteK_pos, iteK_neg, hf]
  simp [wordsOf]
theorem All32no (lent) (l : List UInt8) (hl : l.length < 2 ^ 40) (h : l.length % 4 ≠ 0) : pureV E (om E) 89 lent [bs l] = some (.tuple [ws [], ii 21]) := by
 apply pu_89
 simp (disch := omega) [if_pos, if_neg, iteK_pos, iteK_neg, Tryz.f89]
end Go.Proofs.YthiciofacaeddaaGreat
end
section
namespace Go.Proofs.YthiciofacaeddaaGreat
open Go Go.Sim
set_option maxRecDepth 100000
set_option linter.unusedSimpArgs false
set_option linter.unusedVariables false
attribute [local simp] width32 width8 lend has32

theorem word (lent) (l : List UInt8) (n : Nat) (hl : l.length < 2 ^ 40) (h : n + 4 ≤ l.length) : pureV E (om E) 88 lent [bs l, ii n] = some (w32 (wordAt l n).toNat) := by
 apply pu_88
 simp (disch := omega) [if_pos, if_neg, iteK_pos, iteK_neg, Tryz.f88, At32]
theorem res_lst' {α : Type} (e : Enc α) {l : List α} {c : List V} {n k : Nat} (hc : c = cat e l) (hn : n = l.length) (hk : k = e.k) : V.scon (V.canonL (cutCells c 0 n k)) 0 n false = lst e l := by
 subst hc hk
 exact res_lst e hn rfl
theorem wordI (lent) (l : List UInt8) (n : Int) (h0 : 0 ≤ n) (hl : l.length < 2 ^ 40) (h : n + 4 ≤ l.length) : pureV E (om E) 88 lent [bs l, .int .i64 n] = some (w32 (wordAt l n.toNat).toNat) := by
 obtain ⟨m, rfl⟩ := Int.eq_ofNat_of_zero_le h0
 exact word lent l m hl (by omega)
theorem With32_at {s : V} {l : List UInt8} {n x : Int} {B : List Blk} {r : Heap} (hv : viewArgs (B :: r) [s, .int .i64 n, .int .u32 x] = some [bs l, .int .i64 n, .int .u32 x]) (h0 : 0 ≤ n) (hx : 0 ≤ x) (hx' : x < 4294967296) (hl : l.length < 2 ^ 40) (h : n + 4 ≤ l.length) :
  callV E (om E) 164 [s, .int .i64 n, .int .u32 x] (B :: r) =
  some (.tuple [.sref 0 (B.length + 1) 0 l.length 0 (1, false), ii 0], (B ++ [.row [] 0 1 true true, .row (cat eU8 (with4 l n.toNat (UInt32.ofNat x.toNat))) 0 1 true true]) :: r) := by
 obtain ⟨m, rfl⟩ := Int.eq_ofNat_of_zero_le h0
 obtain ⟨y, rfl⟩ := Int.eq_ofNat_of_zero_le hx
 have := With32_body l m (UInt32.ofNat y) hl (by omega)
 rw [UInt32.toNat_ofNat', Nat.mod_eq_of_lt (by omega)] at this
 rw [call_164, hv]
 simp (disch := omega) [if_pos, if_neg, iteK_pos, iteK_neg, this]
theorem With32I (l : List UInt8) (n x : Int) (h0 : 0 ≤ n) (hx : 0 ≤ x) (hx' : x < 4294967296) (hl : l.length < 2 ^ 40) (h : n + 4 ≤ l.length) (B : List Blk) (r : Heap) : callV E (om E) 164 [bs l, .int .i64 n, .int .u32 x] (B :: r) =
  some (.tuple [.sref 0 (B.length + 1) 0 l.length 0 (1, false), ii 0], (B ++ [.row [] 0 1 true true, .row (cat eU8 (with4 l n.toNat (UInt32.ofNat x.toNat))) 0 1 true true]) :: r) :=
 With32_at (by simp (disch := omega) [if_pos, if_neg, iteK_pos, iteK_neg]) h0 hx hx' hl h
theorem segments (lent) : pureV E (om E) 90 lent [] = some (.agg [ii 16, ii 24, ii 32, ii 40]) := by
 apply pu_90
 simp (disch := omega) [if_pos, if_neg, iteK_pos, iteK_neg, Tryz.f90]
theorem stackMay (lent) (n : UInt32) : pureV E (om E) 91 lent [w32 n.toNat] = some (bb (decide (n.toNat % 4 = 0 ∧ 64 ≤ n.toNat ∧ n.toNat ≤ 32768))) := by
 apply pu_91
 by_cases h1 : n.toNat % 4 = 0 <;> by_cases h2 : 64 ≤ n.toNat <;> simp (disch := omega) [if_pos, if_neg, iteK_pos, iteK_neg, Tryz.f91, h1, h2]
 all_goals omega
theorem room (lent) (d : Nat) (z s : UInt32) (hd : d < 2 ^ 60) : pureV E (om E) 92 lent [ii d, w32 z.toNat, w32 s.toNat] = some (w64 (d + z.toNat + s.toNat)) := by
 apply pu_92
 have := z.toNat_lt; have := s.toNat_lt
 simp (disch := omega) [if_pos, if_neg, iteK_pos, iteK_neg, Tryz.f92]
theorem sized (lent) (l : List UInt8) (hl : l.length < 2 ^ 63) : pureV E (om E) 136 lent [bs l] = some (.tuple (if l.length < 64 then [ii l.length, bb false] else [ii 1048576, bb (decide (l.length ≤ 1048576))])) := by
 apply pu_136
 by_cases h : l.length < 64 <;> simp (disch := omega) [if_pos, if_neg, iteK_pos, iteK_neg, Tryz.f136, h]
 all_goals omega
theorem spansOf_body (l : List UInt8) (hl : l.length < 2 ^ 40) (h : 64 ≤ l.length) : bodyV E (om E) 84 [bs l] [[]] = some (.sref 0 0 0 4 4 (2, false), [[.row (cat eSpan [⟨wordAt l 16, wordAt l 20⟩, ⟨wordAt l 24, wordAt l 28⟩, ⟨wordAt l 32, wordAt l 36⟩, ⟨wordAt l 40, wordAt l 44⟩]) 4 2 true true]]) := by
 apply bo_84
 simp (disch := omega) [if_pos, if_neg, iteK_pos, iteK_neg, Tryz.f84, segments]
 iterate 4
  apply loop_next (dyn := []) hint_84_0 (by kernel_rfl)
  simp (disch := omega) [if_pos, if_neg, iteK_pos, iteK_neg]
  rw [lpB_eq]
  simp (disch := omega) [if_pos, if_neg, iteK_pos, iteK_neg, wordI]
 apply loop_next (dyn := []) hint_84_0 (by kernel_rfl)
 simp (disch := omega) [if_pos, if_neg, iteK_pos, iteK_neg]
 rw [lpB_eq]
 simp (disch := omega) [if_pos, if_neg, iteK_pos, iteK_neg]
 rfl
theorem spansOf (l : List UInt8) (hl : l.length < 2 ^ 40) (h : 64 ≤ l.length) (B : List Blk) (r : Heap) : callV E (om E) 84 [bs l] (B :: r) = some (.sref 0 B.length 0 4 4 (2, false), (B ++ [.row (cat eSpan [⟨wordAt l 16, wordAt l 20⟩, ⟨wordAt l 24, wordAt l 28⟩, ⟨wordAt l 32, wordAt l 36⟩, ⟨wordAt l 40, wordAt l 44⟩]) 4 2 true true]) :: r) := by
 rw [call_84]
 have := spansOf_body l hl h
 simp (disch := omega) [if_pos, if_neg, iteK_pos, iteK_neg, this]
theorem sealed_body (l : List UInt8) (hl : l.length < 2 ^ 40) (h : 64 ≤ l.length) : bodyV E (om E) 120 [bs l] [[]] = some (.sref 0 3 0 l.length 0 (1, false), [[.row [] 0 1 true true, .row (cat eU8 (with4 l 8 0)) 0 1 true true, .row [] 0 1 true true, .row (cat eU8 (with4 (with4 l 8 0) 8 (adler (with4 l 8 0)))) 0 1 true true]]) := by
 apply bo_120
 have hlen := with4_length (l := l) (n := 8) 0 (by omega)
 have hlt := (adler (with4 l 8 0)).toNat_lt
 have e8 : V.scon (V.canonL (cutCells (cat eU8 (with4 l 8 0)) 0 l.length 1)) 0 l.length false = bs (with4 l 8 0) := res_lst eU8 hlen.symm rfl
 have hw := With32_at (s := .sref 0 1 0 l.length 0 (1, false)) (l := with4 l 8 0) (n := 8) (x := ((adler (with4 l 8 0)).toNat : Int)) (B := [.row [] 0 1 true true, .row (cat eU8 (with4 l 8 0)) 0 1 true true]) (r := []) (by simp (disch := omega) [if_pos, if_neg, iteK_pos, iteK_neg, e8, hlen]) (by omega) (by omega) (by omega) (by omega) (by omega)
 simp (disch := omega) [if_pos, if_neg, iteK_pos, iteK_neg, Tryz.f120, With32I, Sum, e8, hlen, hw]
theorem sealed (l : List UInt8) (hl : l.length < 2 ^ 40) (h : 64 ≤ l.length) (B : List Blk) (r : Heap) : callV E (om E) 120 [bs l] (B :: r) = some (.sref 0 (B.length + 3) 0 l.length 0 (1, false), (B ++ [.row [] 0 1 true true, .row (cat eU8 (with4 l 8 0)) 0 1 true true, .row [] 0 1 true true, .row (cat eU8 (with4 (with4 l 8 0) 8 (adler (with4 l 8 0)))) 0 1 true true]) :: r) := by
 rw [call_120]
 have := sealed_body l hl h
 simp (disch := omega) [if_pos, if_neg, iteK_pos, iteK_neg, this]
end Go.Proofs.YthiciofacaeddaaGreat
end
section
namespace Go.Proofs.YthiciofacaeddaaGreat
open Go Go.Sim
set_option maxRecDepth 100000
set_option linter.unusedSimpArgs false
set_option linter.unusedVariables false
attribute [local simp] width32 width8 lend has32

theorem GrowSpan (n : Nat) (hn : 0 < n) (hn' : n < 2 ^ 20) (B : List Blk) (r : Heap) : callV E (om E) 173 [.nilslice, ii n] (B :: r) =
  some (.sref 0 B.length 0 0 0 (2, false), (B ++ [.row (cat eSpan (List.replicate n ⟨0, 0⟩)) 0 2 true true]) :: r) := by
 rw [call_173]
 have key : bodyV E (om E) 173 (V.upL 1 [.nilslice, ii n]) ([] :: B :: r) = some (.sref 0 0 0 0 0 (2, false), [.row (cat eSpan (List.replicate n ⟨0, 0⟩)) 0 2 true true] :: B :: r) := by
  apply bo_173
  simp (disch := omega) [if_pos, if_neg, iteK_pos, iteK_neg, Tryz.f173, hn]
  rw [append_zeros (elem := 137) (k := 2) (kk := .i64) (z := .agg [.int .u32 0, .int .u32 0]) (by_ := 8) (by simp) (by simp) (by simp) (by simp) (by simp) (by omega) (by simp) (by omega),
   show rep (V.cells (.agg [.int .u32 0, .int .u32 0])) (n : Int).toNat = cat eSpan (List.replicate n ⟨0, 0⟩) from rep_cat eSpan ⟨0, 0⟩ n]
  simp (disch := omega) [if_pos, if_neg, iteK_pos, iteK_neg]
 rw [key]
 simp (disch := omega) [if_pos, if_neg, iteK_pos, iteK_neg]
theorem ConcatSpan (lent) (a b : List Span) (ha : a.length < 1000) (hb : b.length < 1000) (hs : 0 < a.length + b.length) : pureV E (om E) 139 lent [.scon [lst eSpan a, lst eSpan b] 0 2 false] = some (lst eSpan (a ++ b)) := by
 apply pu_139
 simp (disch := omega) [if_pos, if_neg, iteK_pos, iteK_neg, Tryz.f139]
 iterate 3
  apply loop_next (dyn := []) hint_139_0 (by kernel_rfl)
  simp (disch := omega) [if_pos, if_neg, iteK_pos, iteK_neg]
  rw [lpB_eq]
  simp (disch := omega) [if_pos, if_neg, iteK_pos, iteK_neg]
 rw [show (a.length : Int) + b.length = ((a.length + b.length : Nat) : Int) by omega, GrowSpan _ hs (by omega)]
 simp (disch := omega) [if_pos, if_neg, iteK_pos, iteK_neg]
 iterate 3
  apply loop_next (dyn := []) hint_139_1 (by kernel_rfl)
  simp (disch := omega) [if_pos, if_neg, iteK_pos, iteK_neg]
  rw [lpB_eq]
  simp (disch := omega) [if_pos, if_neg, iteK_pos, iteK_neg]
 exact res_lst' eSpan (cat_append eSpan a b).symm (by simp) rfl

theorem WithinI (lent) (a n : UInt32) (t : Int) (h0 : 0 ≤ t) (ht : t < 4294967296) : pureV E (om E) 137 lent [.agg [w32 a.toNat, w32 n.toNat], .int .u32 t] = some (bb (decide (a.toNat + n.toNat ≤ t.toNat))) := by
 obtain ⟨m, rfl⟩ := Int.eq_ofNat_of_zero_le h0
 have := Within lent a n (UInt32.ofNat m)
 rw [UInt32.toNat_ofNat', Nat.mod_eq_of_lt (by omega)] at this
 exact this
def sealP (l : List UInt8) : List UInt8 := with4 (with4 l 8 0) 8 (adler (with4 l 8 0))
theorem sealP_length (l : List UInt8) (h : 12 ≤ l.length) : (sealP l).length = l.length := by
 unfold sealP; rw [with4_length, with4_length] <;> (try rw [with4_length]) <;> omega
def spanI (l : List UInt8) (i : Nat) : Span := ⟨wordAt l (16 + 8 * i), wordAt l (20 + 8 * i)⟩
def spansP (l : List UInt8) : List Span := [spanI l 0, spanI l 1, spanI l 2, spanI l 3]
def headP (l : List UInt8) : Nat × Nat :=
 if l.length < 64 then (l.length, 80) else if 1048576 < l.length then (1048576, 80)
 else if l.take 4 ≠ [80, 69, 78, 33] then (0, 80)
 else if wordAt l 4 ≠ 1 then (4, 81)
 else if wordAt (sealP l) 8 ≠ wordAt l 8 then (8, 82)
 else if wordAt l 56 ≠ 0 then (56, 88)
 else if wordAt l 60 ≠ 0 then (60, 88)
 else if l.length < (spanI l 0).stop then (16, 83)
 else if l.length < (spanI l 1).stop then (24, 83)
 else if l.length < (spanI l 2).stop then (32, 83)
 else if l.length < (spanI l 3).stop then (40, 83)
 else match lapFrom (⟨0, 64⟩ :: spansP l) 0 with
  | some (i, _) => (8 + 8 * i, 84)
  | none => (0, 0)
abbrev headV (x : Nat × Nat) : V := .tuple [ii x.1, ii x.2]
theorem ConcatHead (lent) (b : List Span) (hb : b.length < 1000) : pureV E (om E) 139 lent [.scon [.scon [.int .u32 0, .int .u32 64] 0 1 false, lst eSpan b] 0 2 false] = some (lst eSpan (⟨0, 64⟩ :: b)) :=
 ConcatSpan lent [⟨0, 64⟩] b (by simp) hb (by simp; omega)
theorem firstLap_lt (s : Span) (l : List Span) (j k : Nat) (h : firstLap s l j = some k) : k < l.length := by
 rw [firstLap] at h
 split at h
 ·split at h
  ·simp only [Option.some.injEq] at h; omega
  ·exact firstLap_lt s l (j + 1) k h
 ·cases h
termination_by l.length - j
theorem lapFrom_lt (l : List Span) (i a b : Nat) (h : lapFrom l i = some (a, b)) : a < l.length ∧ b < a := by
 rw [lapFrom] at h
 split at h
 ·split at h
  ·rename_i j hj
   simp only [Option.some.injEq, Prod.mk.injEq] at h
   have := firstLap_lt _ _ _ _ hj
   simp at this
   omega
  ·exact lapFrom_lt l (i + 1) a b h
 ·cases h
termination_by l.length - i
set_option maxHeartbeats 1000000 in
theorem headed (lent) (l : List UInt8) (hl : l.length < 2 ^ 63) : pureV E (om E) 83 lent [bs l] = some (headV (headP l)) := by
 apply pu_83
 unfold headP
 by_cases h1 : l.length < 64
 ·simp (disch := omega) [if_pos, if_neg, iteK_pos, iteK_neg, Tryz.f83, sized, h1]
 by_cases h2 : 1048576 < l.length
 ·simp (disch := omega) [if_pos, if_neg, iteK_pos, iteK_neg, Tryz.f83, sized, h1, h2]
 rw [if_neg h1, if_neg h2]
 replace hl : l.length < 2 ^ 40 := by omega
 by_cases h3 : l.take 4 = [80, 69, 78, 33]
 ·have hS : ∀ B r, callV E (om E) 120 [bs l] (B :: r) = some (.sref 0 (B.length + 3) 0 l.length 0 (1, false), (B ++ [.row [] 0 1 true true, .row (cat eU8 (with4 l 8 0)) 0 1 true true, .row [] 0 1 true true, .row (cat eU8 (sealP l)) 0 1 true true]) :: r) := sealed l hl (by omega)
  have hSl := sealP_length l (by omega)
  have e9 : V.scon (V.canonL (cutCells (cat eU8 (sealP l)) 0 l.length 1)) 0 l.length false = bs (sealP l) := res_lst eU8 hSl.symm rfl
  rw [if_neg (by simp [h3])]
  by_cases h4 : (wordAt l 4).toNat = 1
  ·rw [if_neg (by simp [← UInt32.toNat_inj, h4])]
   by_cases h5 : (wordAt (sealP l) 8).toNat = (wordAt l 8).toNat
   ·rw [if_neg (by simp [← UInt32.toNat_inj, h5])]
    by_cases h6 : (wordAt l 56).toNat = 0
    ·rw [if_neg (by simp [← UInt32.toNat_inj, h6])]
     by_cases h7 : (wordAt l 60).toNat = 0
     ·rw [if_neg (by simp [← UInt32.toNat_inj, h7])]
      have hSp : ∀ B r, callV E (om E) 84 [bs l] (B :: r) = some (.sref 0 B.length 0 4 4 (2, false), (B ++ [.row (cat eSpan [spanI l 0, spanI l 1, spanI l 2, spanI l 3]) 4 2 true true]) :: r) := spansOf l hl (by omega)
      unfold spansP
      generalize spanI l 0 = s0 at hSp ⊢
      generalize spanI l 1 = s1 at hSp ⊢
      generalize spanI l 2 = s2 at hSp ⊢
      generalize spanI l 3 = s3 at hSp ⊢
      replace hSp : ∀ B r, callV E (om E) 84 [bs l] (B :: r) = some (.sref 0 B.length 0 4 4 (2, false), (B ++ [.row [w32 s0.place.toNat, w32 s0.len.toNat, w32 s1.place.toNat, w32 s1.len.toNat, w32 s2.place.toNat, w32 s2.len.toNat, w32 s3.place.toNat, w32 s3.len.toNat] 4 2 true true]) :: r) := hSp
      simp (disch := omega) [if_pos, if_neg, iteK_pos, iteK_neg, Tryz.f83, sized, h1, h2, wordI, h3, h4, hS, e9, h5, h6, h7, hSp]
      unfold Span.stop
      by_cases g0 : l.length < s0.place.toNat + s0.len.toNat
      ·rw [if_pos g0]
       iterate 1
        apply loop_next (dyn := []) hint_83_0 (by kernel_rfl)
        simp (disch := omega) [if_pos, if_neg, iteK_pos, iteK_neg]
        rw [lpB_eq]
        simp (disch := omega) [if_pos, if_neg, iteK_pos, iteK_neg, WithinI, g0, segments]
      by_cases g1 : l.length < s1.place.toNat + s1.len.toNat
      ·rw [if_neg g0, if_pos g1]
       iterate 2
        apply loop_next (dyn := []) hint_83_0 (by kernel_rfl)
        simp (disch := omega) [if_pos, if_neg, iteK_pos, iteK_neg]
        rw [lpB_eq]
        simp (disch := omega) [if_pos, if_neg, iteK_pos, iteK_neg, WithinI, g0, g1, segments]
      by_cases g2 : l.length < s2.place.toNat + s2.len.toNat
      ·rw [if_neg g0, if_neg g1, if_pos g2]
       iterate 3
        apply loop_next (dyn := []) hint_83_0 (by kernel_rfl)
        simp (disch := omega) [if_pos, if_neg, iteK_pos, iteK_neg]
        rw [lpB_eq]
        simp (disch := omega) [if_pos, if_neg, iteK_pos, iteK_neg, WithinI, g0, g1, g2, segments]
      by_cases g3 : l.length < s3.place.toNat + s3.len.toNat
      ·rw [if_neg g0, if_neg g1, if_neg g2, if_pos g3]
       iterate 4
        apply loop_next (dyn := []) hint_83_0 (by kernel_rfl)
        simp (disch := omega) [if_pos, if_neg, iteK_pos, iteK_neg]
        rw [lpB_eq]
        simp (disch := omega) [if_pos, if_neg, iteK_pos, iteK_neg, WithinI, g0, g1, g2, g3, segments]
      rw [if_neg g0, if_neg g1, if_neg g2, if_neg g3]
      iterate 5
       apply loop_next (dyn := []) hint_83_0 (by kernel_rfl)
       simp (disch := omega) [if_pos, if_neg, iteK_pos, iteK_neg]
       rw [lpB_eq]
       simp (disch := omega) [if_pos, if_neg, iteK_pos, iteK_neg, WithinI, g0, g1, g2, g3]
      have hC : pureV E (om E) 139 true [.scon [.scon [.int .u32 0, .int .u32 64] 0 1 false, .scon [w32 s0.place.toNat, w32 s0.len.toNat, w32 s1.place.toNat, w32 s1.len.toNat, w32 s2.place.toNat, w32 s2.len.toNat, w32 s3.place.toNat, w32 s3.len.toNat] 0 4 false] 0 2 false] = some (lst eSpan (⟨0, 64⟩ :: [s0, s1, s2, s3])) := ConcatHead true [s0, s1, s2, s3] (by simp)
      have hA := fun lent => Apart lent [⟨0, 64⟩, s0, s1, s2, s3] (by simp)
      simp (disch := omega) [if_pos, if_neg, iteK_pos, iteK_neg, cutCells, hC, hA]
      cases hlap : lapFrom [⟨0, 64⟩, s0, s1, s2, s3] 0 with
      | none => simp (disch := omega) [if_pos, if_neg, iteK_pos, iteK_neg, apartV']
      | some x =>
       obtain ⟨i, j⟩ := x
       have := lapFrom_lt _ _ _ _ hlap
       simp only [List.length_cons, List.length_nil] at this
       have hi : i = 1 ∨ i = 2 ∨ i = 3 ∨ i = 4 := by omega
       rcases hi with rfl | rfl | rfl | rfl <;> simp (disch := omega) [if_pos, if_neg, iteK_pos, iteK_neg, apartV', segments]
     ·rw [if_pos (by simpa [← UInt32.toNat_inj] using h7)]
      simp (disch := omega) [if_pos, if_neg, iteK_pos, iteK_neg, Tryz.f83, sized, h1, h2, wordI, h3, h4, hS, e9, h5, h6, h7]
    ·rw [if_pos (by simpa [← UInt32.toNat_inj] using h6)]
     simp (disch := omega) [if_pos, if_neg, iteK_pos, iteK_neg, Tryz.f83, sized, h1, h2, wordI, h3, h4, hS, e9, h5, h6]
   ·rw [if_pos (by simpa [← UInt32.toNat_inj] using h5)]
    have h5' : ¬ wordAt (sealP l) 8 = wordAt l 8 := fun h => h5 (by rw [h])
    simp (disch := omega) [if_pos, if_neg, iteK_pos, iteK_neg, Tryz.f83, sized, h1, h2, wordI, h3, h4, hS, e9, h5']
  ·rw [if_pos (by simpa [← UInt32.toNat_inj] using h4)]
   simp (disch := omega) [if_pos, if_neg, iteK_pos, iteK_neg, Tryz.f83, sized, h1, h2, wordI, h3, h4]
 ·simp (disch := omega) [if_pos, if_neg, iteK_pos, iteK_neg, Tryz.f83, sized, h1, h2]
end Go.Proofs.YthiciofacaeddaaGreat
end
section
namespace Go.Proofs.YthiciofacaeddaaGreat
open Go Go.Sim
set_option maxRecDepth 100000
set_option linter.unusedSimpArgs false
set_option linter.unusedVariables false

structure Export where
 name : List UInt8
 place : UInt32
 deriving DecidableEq
def eExport : Enc Export where
 enc i := [.str i.name, w32 i.place.toNat]
 k := 2
 pos := by omega
 len := fun _ => rfl
 canon := fun _ => by simp
 flat := fun _ => by simp
 ok := fun _ => by simp
@[simp] theorem eExport_k : eExport.k = 2 := rfl
@[simp] theorem eExport_enc (s) : eExport.enc s = [.str s.name, w32 s.place.toNat] := rfl
@[simp] theorem plain_eExport (l : List Export) : V.plainL (cat eExport l) = true := cat_plain eExport (fun _ => by simp) l
@[simp] theorem take_eExport (l : List Export) (n : Nat) : (cat eExport l).take (n * 2) = cat eExport (l.take n) := cat_take eExport l n
@[simp] theorem cut_eExport (l : List Export) : cutCells (cat eExport l) 0 l.length 2 = cat eExport l := cut_all eExport rfl rfl
@[simp] theorem fold_eExport (l : List Export) : V.scon (cat eExport l) 0 l.length false = lst eExport l := rfl

def nameOk (l : List Export) (i : Nat) : Bool :=
 match l[i]? with
 | none => false
 | some x => decide (1 ≤ x.name.length ∧ x.name.length ≤ 32) && (decide (i = 0) || match l[i - 1]? with | none => false | some y => (!Op.bytesLess x.name y.name && !(x.name == y.name)))
theorem nameMay (lent) (l : List Export) (i : Nat) (hi : i < l.length) (hl : l.length < 2 ^ 40) : pureV E (om E) 104 lent [lst eExport l, ii i] = some (bb (nameOk l i)) := by
 apply pu_104
 unfold nameOk
 by_cases h1 : 1 ≤ l[i].name.length
 ·by_cases h2 : l[i].name.length ≤ 32
  ·by_cases h3 : i = 0
   ·subst h3
    simp (disch := omega) [if_pos, if_neg, iteK_pos, iteK_neg, Tryz.f104, h1, h2]
   ·have hN : ((i : Int) - 1).toNat = i - 1 := by omega
    simp (disch := omega) [if_pos, if_neg, iteK_pos, iteK_neg, Tryz.f104, h1, h2, h3, hN]
  ·simp (disch := omega) [if_pos, if_neg, iteK_pos, iteK_neg, Tryz.f104, h1, h2]
 ·simp (disch := omega) [if_pos, if_neg, iteK_pos, iteK_neg, Tryz.f104, h1]
def expP (l : List UInt8) (at_ : Nat) (acc : List Export) : List Export × Nat × Nat :=
 if at_ < l.length then
  if l.length < at_ + 5 ∨ l.length < at_ + 5 + (l.getD (at_ + 4) 0).toNat ∨ acc.length = 64 then ([], at_, 87)
  else
   if nameOk (acc ++ [⟨(l.drop (at_ + 5)).take (l.getD (at_ + 4) 0).toNat, wordAt l at_⟩]) acc.length then expP l (at_ + 5 + (l.getD (at_ + 4) 0).toNat) (acc ++ [⟨(l.drop (at_ + 5)).take (l.getD (at_ + 4) 0).toNat, wordAt l at_⟩])
   else ([], at_, 87)
 else (acc, 0, 0)
termination_by l.length - at_
abbrev expsV (x : List Export × Nat × Nat) : V := .tuple [lst eExport x.1, ii x.2.1, ii x.2.2]
theorem exports (lent) (l : List UInt8) (hl : l.length < 2 ^ 40) : pureV E (om E) 93 lent [bs l] = some (expsV (expP l 0 [])) := by
 apply pu_93
 simp (disch := omega) [if_pos, if_neg, iteK_pos, iteK_neg, Tryz.f93]
 refine loop_use (dyn := []) (fun (a : Nat × List Export × Nat) => [bs l, xx, .nilslice, ii 0, ii 0, .sref 0 0 0 a.2.1.length a.2.2 (2, false), ii a.1] ++ pois 57)
  (fun a => [[.row (cat eExport a.2.1) a.2.2 2 true true]]) (fun a => a.1 ≤ l.length ∧ a.2.1.length ≤ 64 ∧ expP l 0 [] = expP l a.1 a.2.1) (fun a => l.length - a.1) hint_93_0 (by kernel_rfl) ?_ (0, [], 0) ⟨by simp, by simp, rfl⟩ (by simp)
 rintro ⟨at_, acc, e⟩ ⟨ha, h64, hf⟩ IH
 rw [lpB_eq]
 dsimp only at ha h64 hf ⊢
 generalize expP l 0 [] = D at hf IH ⊢
 rw [expP] at hf
 by_cases hlt : at_ < l.length
 ·rw [if_pos hlt] at hf
  by_cases h5 : l.length < at_ + 5
  ·rw [if_pos (.inl h5)] at hf
   simp (disch := omega) [if_pos, if_neg, iteK_pos, iteK_neg, hlt, h5, hf]
  ·have hb : l.getD (at_ + 4) 0 = l[at_ + 4] := by rw [List.getD, List.getElem?_eq_getElem (by omega)]; rfl
   have := l[at_ + 4].toNat_lt
   rw [hb] at hf
   by_cases h6 : l.length < at_ + 5 + l[at_ + 4].toNat
   ·rw [if_pos (.inr (.inl h6))] at hf
    simp (disch := omega) [if_pos, if_neg, iteK_pos, iteK_neg, hlt, h5, h6, hf]
   ·by_cases h7 : acc.length = 64
    ·rw [if_pos (.inr (.inr h7))] at hf
     simp (disch := omega) [if_pos, if_neg, iteK_pos, iteK_neg, hlt, h5, h6, h7, hf]
    ·rw [if_neg (by omega)] at hf
     have ht : List.take (l.length - at_) (List.drop at_ l) = List.drop at_ l := List.take_of_length_le (by simp)
     have hdl : (List.drop at_ l).length = l.length - at_ := by simp
     have hw : wordAt (List.drop at_ l) 0 = wordAt l at_ := by simp [wordAt]
     have hN : ((5 : Int) + l[at_ + 4].toNat).toNat - 5 = l[at_ + 4].toNat := by omega
     have hc : cat eExport acc ++ [.str (List.take l[at_ + 4].toNat (List.drop (at_ + 5) l)), .int .u32 (wordAt l at_).toNat] = cat eExport (acc ++ [⟨List.take l[at_ + 4].toNat (List.drop (at_ + 5) l), wordAt l at_⟩]) := by simp [cat_append, cat_cons]
     generalize hx : (⟨List.take l[at_ + 4].toNat (List.drop (at_ + 5) l), wordAt l at_⟩ : Export) = x at hf hc
     have hr : V.scon (V.canonL (cutCells (cat eExport (acc ++ [x])) 0 (acc.length + 1) 2)) 0 (acc.length + 1) false = lst eExport (acc ++ [x]) := res_lst eExport (by simp) rfl
     have hm := fun lent => nameMay lent (acc ++ [x]) acc.length (by simp) (by simp; omega)
     by_cases h8 : nameOk (acc ++ [x]) acc.length = true
     ·rw [if_pos h8] at hf
      simp (disch := omega) [if_pos, if_neg, iteK_pos, iteK_neg, hlt, h5, h6, h7, ht, hdl, wordI, hw, hN, hc, hr, hm, h8]
      exact IH (at_ + (5 + l[at_ + 4].toNat), acc ++ [x], e + 1) _ _ ⟨by dsimp only; omega, by simp; omega, by dsimp only; rw [← Nat.add_assoc]; exact hf⟩ (by dsimp only; omega) (by simp)
     ·rw [if_neg h8] at hf
      simp (disch := omega) [if_pos, if_neg, iteK_pos, iteK_neg, hlt, h5, h6, h7, ht, hdl, wordI, hw, hN, hc, hr, hm, h8, hf]
 ·rw [if_neg hlt] at hf
  obtain rfl : at_ = l.length := by omega
  simp (disch := omega) [if_pos, if_neg, iteK_pos, iteK_neg, hlt, hf]
end Go.Proofs.YthiciofacaeddaaGreat
end
