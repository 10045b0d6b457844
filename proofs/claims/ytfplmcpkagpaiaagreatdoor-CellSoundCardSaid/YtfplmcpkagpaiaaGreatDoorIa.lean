/-
 Plain facts: spans.
 The functions of package little, and of Go's slices, as the machine of values computes them.
 The functions of package little, second part.
 slices.Grow, slices.Concat; package image's small functions.
 slices.Grow and slices.Concat of spans; image.headed.
 image.nameMay, image.exports.
-/
import Derived.Test.YtfplmcpkagpaiaaGreatDoorFa
import Derived.Test.YtfplmcpkagpaiaaGreatDoorNh
import Derived.Test.YtfplmcpkagpaiaaGreatDoorMe
set_option maxRecDepth 100000
set_option linter.unusedSimpArgs false
set_option linter.unusedVariables false
section
namespace Go.Proofs.YtfplmcpkagpaiaaGreatDoor
open Go Go.Sim
structure Span where
 place : UInt32
 len : UInt32
 deriving DecidableEq
def Span.stop (s : Span) : Nat := s.place.toNat + s.len.toNat
def eSpan : Enc Span where
 enc s := [w32 s.place.toNat, w32 s.len.toNat]
 k := 2
 pos := by omega
 len := fun _ => rfl
 canon := fun _ => by simp
 flat := fun _ => by simp
 ok := fun _ => by simp
@[simp] theorem eSpan_k : eSpan.k = 2 := rfl
@[simp] theorem eSpan_enc (s) : eSpan.enc s = [w32 s.place.toNat, w32 s.len.toNat] := rfl
@[simp] theorem take_eSpan (l : List Span) (n : Nat) : (cat eSpan l).take (n * 2) = cat eSpan (l.take n) := cat_take eSpan l n
@[simp] theorem cut_eSpan (l : List Span) : cutCells (cat eSpan l) 0 l.length 2 = cat eSpan l := cut_all eSpan rfl rfl
@[simp] theorem fold_eSpan (l : List Span) : V.scon (cat eSpan l) 0 l.length false = lst eSpan l := rfl
def layFrom (place : Nat) : List UInt32 → Option (List Span)
 | [] => some []
 | n :: r => if place + n.toNat > 4294967295 then none else (layFrom (place + n.toNat) r).map fun l => ⟨UInt32.ofNat place, n⟩ :: l
@[simp] theorem cloneL_eU8 (L : Nat) (l : List UInt8) (h : Heap) : cloneWL L 1 [bs l] h = if L < l.length then none else if l = [] then some (.scon [] 0 0 false, h) else
  some (.sref 0 (h.top.length + 1) 0 l.length 0 (1, false), (Go.Sim.newRow (h.push (.row [] 0 1 true true)) (cat eU8 l) 1).2) := clone_lst eU8 l h 1 rfl
end Go.Proofs.YtfplmcpkagpaiaaGreatDoor
end
section
namespace Go.Proofs.YtfplmcpkagpaiaaGreatDoor
open Go Go.Sim
theorem width32 (lent) : pureV E (om E) 110 lent [] = some (ii 4) := by
 apply pu_110
 simp (disch := omega) [Tryz.f110]
 repeat
  apply loop_next (dyn := []) hint_110_0 (by kernel_rfl)
  simp (disch := omega)
  rw [lpB_eq]
  simp (disch := omega)
theorem width8 (lent) : pureV E (om E) 111 lent [] = some (ii 1) := by
 apply pu_111
 simp (disch := omega) [Tryz.f111]
 repeat
  apply loop_next (dyn := []) hint_111_0 (by kernel_rfl)
  simp (disch := omega)
  rw [lpB_eq]
  simp (disch := omega)
attribute [local simp] width32 width8
theorem has32 (lent) (l : List UInt8) (at_ : Int) (hl : l.length < 2 ^ 62) : pureV E (om E) 112 lent [bs l, ii at_] = some (bb (decide (0 ≤ at_ ∧ at_ + 4 ≤ l.length))) := by
 apply pu_112
 by_cases h : 0 ≤ at_
 ·simp (disch := omega) [Tryz.f112, h]
  omega
 ·simp (disch := omega) [Tryz.f112, h]
attribute [local simp] has32
theorem lay32 (t : List UInt8) (x : UInt32) (B : List Blk) (r : Heap) (j ep : Nat) (hj : B[j]? = some (.row (cat eU8 t) ep 1 true true)) (ht : t.length < 2 ^ 44) :
  callV E (om E) 83 [.sref 0 j 0 t.length ep (1, false), w32 x.toNat] (B :: r) =
   some (.sref 0 j 0 (t.length + 4) (ep + 4) (1, false), B.set j (.row (cat eU8 (t ++ bytes4 x)) (ep + 4) 1 true true) :: r) := by
 rw [call_83]
 obtain ⟨hjl, hj'⟩ := List.getElem?_eq_some_iff.1 hj
 have hx := x.toNat_lt
 have key : ∃ T, bodyV E (om E) 83 (V.upL 1 [V.sref 0 j 0 t.length ep (1, false), w32 x.toNat]) ([] :: B :: r) = some (.sref 1 j 0 (t.length + 4) (ep + 4) (1, false), T :: B.set j (.row (cat eU8 (t ++ bytes4 x)) (ep + 4) 1 true true) :: r) := by
  refine ⟨[], ?_⟩
  ·apply bo_83
   simp (disch := omega) [if_pos, if_neg, iteK_pos, iteK_neg, Tryz.f83]
   iterate 5
    apply loop_next (dyn := []) hint_83_0 (by kernel_rfl)
    simp (disch := omega) [if_pos, if_neg, iteK_pos, iteK_neg]
    rw [lpB_eq]
    simp (disch := omega) [if_pos, if_neg, iteK_pos, iteK_neg, hj', Int.fdiv_eq_ediv_of_nonneg]
   have h3 : (x.toNat : Int) / 16777216 % 256 = (x.toNat : Int) / 16777216 := by omega
   simp [List.take_of_length_le, cat_append, bytes4, cat_cons, IntKind.wrap_u8, h3]
 obtain ⟨T, hT⟩ := key
 rw [hT]
 simp
theorem lay8 (t : List UInt8) (x : UInt8) (B : List Blk) (r : Heap) (j ep : Nat) (hj : B[j]? = some (.row (cat eU8 t) ep 1 true true)) (ht : t.length < 2 ^ 44) :
  callV E (om E) 84 [.sref 0 j 0 t.length ep (1, false), w8 x.toNat] (B :: r) =
   some (.sref 0 j 0 (t.length + 1) (ep + 1) (1, false), B.set j (.row (cat eU8 (t ++ [x])) (ep + 1) 1 true true) :: r) := by
 rw [call_84]
 obtain ⟨hjl, hj'⟩ := List.getElem?_eq_some_iff.1 hj
 have hx := x.toNat_lt
 have key : ∃ T, bodyV E (om E) 84 (V.upL 1 [V.sref 0 j 0 t.length ep (1, false), w8 x.toNat]) ([] :: B :: r) = some (.sref 1 j 0 (t.length + 1) (ep + 1) (1, false), T :: B.set j (.row (cat eU8 (t ++ [x])) (ep + 1) 1 true true) :: r) := by
  refine ⟨[], ?_⟩
  ·apply bo_84
   simp (disch := omega) [if_pos, if_neg, iteK_pos, iteK_neg, Tryz.f84]
   iterate 2
    apply loop_next (dyn := []) hint_84_0 (by kernel_rfl)
    simp (disch := omega) [if_pos, if_neg, iteK_pos, iteK_neg]
    rw [lpB_eq]
    simp (disch := omega) [if_pos, if_neg, iteK_pos, iteK_neg, hj', Int.fdiv_eq_ediv_of_nonneg]
   simp [List.take_of_length_le, cat_append, cat_cons]
 obtain ⟨T, hT⟩ := key
 rw [hT]
 simp
theorem Put32 (lent) (l : List UInt32) (hl : l.length < 2 ^ 40) : pureV E (om E) 54 lent [ws l] = some (bs (words l)) := by
 apply pu_54
 simp (disch := omega) [if_pos, if_neg, iteK_pos, iteK_neg, Tryz.f54]
 refine loop_use (dyn := []) (fun (a : Nat × List UInt8 × Nat) => [ws l, xx, .nilslice, .sref 0 0 0 a.2.1.length a.2.2 (1, false), xx, xx, ws l, ii l.length, ii a.1] ++ pois 8)
  (fun a => [[.row (cat eU8 a.2.1) a.2.2 1 true true]]) (fun a => a.1 ≤ l.length ∧ a.2.1 = words (l.take a.1)) (fun a => l.length - a.1) hint_54_0 (by kernel_rfl) ?_ (0, [], 0) ⟨by simp, rfl⟩ (by simp)
 rintro ⟨i, acc, e⟩ ⟨hi, hacc⟩ IH
 rw [lpB_eq]
 dsimp only at hi hacc ⊢
 by_cases hlt : i < l.length
 ·have h1 := words_length (l.take i)
  rw [← hacc] at h1
  have h2 := List.length_take_le i l
  have hlay := lay32 acc l[i] [.row (cat eU8 acc) e 1 true true] [] 0 e rfl (by omega)
  simp (disch := omega) [if_pos, if_neg, iteK_pos, iteK_neg, hlt, hlay]
  refine IH (i + 1, acc ++ bytes4 l[i], e + 4) _ _ ⟨by dsimp only; omega, ?_⟩ (by dsimp only; omega) (by simp)
  dsimp only
  rw [take_snoc hlt, words_append, hacc]; simp [words]
 ·obtain rfl : i = l.length := by omega
  rw [List.take_length] at hacc; subst hacc
  simp (disch := omega) [if_pos, if_neg, iteK_pos, iteK_neg]
theorem Put8 (lent) (l : List UInt8) (hl : l.length < 2 ^ 40) : pureV E (om E) 55 lent [bs l] = some (bs l) := by
 apply pu_55
 simp (disch := omega) [if_pos, if_neg, iteK_pos, iteK_neg, Tryz.f55]
 refine loop_use (dyn := []) (fun (a : Nat × List UInt8 × Nat) => [bs l, xx, .nilslice, .sref 0 0 0 a.2.1.length a.2.2 (1, false), xx, xx, bs l, ii l.length, ii a.1] ++ pois 8)
  (fun a => [[.row (cat eU8 a.2.1) a.2.2 1 true true]]) (fun a => a.1 ≤ l.length ∧ a.2.1 = l.take a.1) (fun a => l.length - a.1) hint_55_0 (by kernel_rfl) ?_ (0, [], 0) ⟨by simp, rfl⟩ (by simp)
 rintro ⟨i, acc, e⟩ ⟨hi, hacc⟩ IH
 rw [lpB_eq]
 dsimp only at hi hacc ⊢
 by_cases hlt : i < l.length
 ·have h2 := List.length_take_le i l
  rw [← hacc] at h2
  have hlay := lay8 acc l[i] [.row (cat eU8 acc) e 1 true true] [] 0 e rfl (by omega)
  simp (disch := omega) [if_pos, if_neg, iteK_pos, iteK_neg, hlt, hlay]
  refine IH (i + 1, acc ++ [l[i]], e + 1) _ _ ⟨by dsimp only; omega, ?_⟩ (by dsimp only; omega) (by simp)
  dsimp only
  rw [take_snoc hlt, hacc]
 ·obtain rfl : i = l.length := by omega
  rw [List.take_length] at hacc; subst hacc
  simp (disch := omega) [if_pos, if_neg, iteK_pos, iteK_neg]
theorem lay32nil (x : UInt32) (h : Heap) : callV E (om E) 83 [.nilslice, w32 x.toNat] h = some (bs (bytes4 x), h) := by
 rw [call_83]
 have hx := x.toNat_lt
 have key : bodyV E (om E) 83 (V.upL 1 [V.nilslice, w32 x.toNat]) ([] :: h) = some (.sref 0 0 0 4 4 (1, false), [.row (cat eU8 (bytes4 x)) 4 1 true true] :: h) := by
  apply bo_83
  simp (disch := omega) [if_pos, if_neg, iteK_pos, iteK_neg, Tryz.f83]
  iterate 5
   apply loop_next (dyn := []) hint_83_0 (by kernel_rfl)
   simp (disch := omega) [if_pos, if_neg, iteK_pos, iteK_neg]
   rw [lpB_eq]
   simp (disch := omega) [if_pos, if_neg, iteK_pos, iteK_neg, Int.fdiv_eq_ediv_of_nonneg]
  have h3 : (x.toNat : Int) / 16777216 % 256 = (x.toNat : Int) / 16777216 := by omega
  simp [List.take_of_length_le, bytes4, cat_cons, IntKind.wrap_u8, h3]
 rw [key]
 have : (bytes4 x).length = 4 := rfl
 have h2 := cut_eU8 (bytes4 x)
 rw [this] at h2
 simp [h2, fold_lst eU8 this.symm]
theorem Sum (lent) (l : List UInt8) (hl : l.length < 2 ^ 40) : pureV E (om E) 21 lent [bs l] = some (w32 (adler l).toNat) := by
 apply pu_21
 simp (disch := omega) [if_pos, if_neg, iteK_pos, iteK_neg, Tryz.f21]
 refine loop_use (dyn := []) (fun (a : Nat × Int × Int) => [bs l, xx, w32 0, w32 a.2.1, w32 a.2.2, xx, xx, bs l, ii l.length, ii a.1] ++ pois 17)
  (fun _ => [[]]) (fun a => a.1 ≤ l.length ∧ a.2 = sums (l.take a.1) (1, 0)) (fun a => l.length - a.1) hint_21_0 (by kernel_rfl) ?_ (0, 1, 0) ⟨by simp, rfl⟩ (by simp)
 rintro ⟨i, lo, hi⟩ ⟨h1, h2⟩ IH
 rw [lpB_eq]
 dsimp only at h1 h2 ⊢
 have hf := sums_fits (l.take i) (1, 0) (by simp)
 rw [← h2] at hf
 dsimp only at hf
 by_cases hlt : i < l.length
 ·have hb := toNat_lt8 l[i]
  simp (disch := omega) [if_pos, if_neg, iteK_pos, iteK_neg, hlt]
  refine IH (i + 1, (lo + l[i].toNat) % 65521, (hi + (lo + l[i].toNat) % 65521) % 65521) _ _ ⟨by dsimp only; omega, ?_⟩ (by dsimp only; omega) (by simp)
  dsimp only
  rw [take_snoc hlt, sums_append, ← h2]; rfl
 ·obtain rfl : i = l.length := by omega
  rw [List.take_length] at h2
  simp (disch := omega) [if_pos, if_neg, iteK_pos, iteK_neg]
  rw [adler_toNat, ← h2]
end Go.Proofs.YtfplmcpkagpaiaaGreatDoor
end
section
namespace Go.Proofs.YtfplmcpkagpaiaaGreatDoor
open Go Go.Sim
attribute [local simp] width32 width8 has32
theorem With32_body (l : List UInt8) (n : Nat) (x : UInt32) (hl : l.length < 2 ^ 40) (h : n + 4 ≤ l.length) : bodyV E (om E) 85 [bs l, ii n, w32 x.toNat] [[]] =
  some (.tuple [.sref 0 1 0 l.length 0 (1, false), ii 0], [[.row [] 0 1 true true, .row (cat eU8 (with4 l n x)) 0 1 true true]]) := by
 apply bo_85
 have hne : l ≠ [] := by intro h0; simp [h0] at h
 have hlen := with4_length x h
 have hc : cat eU8 (l.take n) ++ (cat eU8 (bytes4 x) ++ cat eU8 (l.drop (n + 4))) = cat eU8 (with4 l n x) := by simp [with4, cat_append]
 simp (disch := omega) [if_pos, if_neg, iteK_pos, iteK_neg, Tryz.f85, lay32nil, hne, hc]
theorem Lay (lent) (p : UInt32) (l : List UInt32) (hl : l.length < 2 ^ 20) : pureV E (om E) 56 lent [w32 p.toNat, ws l] = some (match layFrom p.toNat l with | some r => .tuple [lst eSpan r, ii 0] | none => .tuple [lst eSpan [], ii 20]) := by
 apply pu_56
 have hp := p.toNat_lt
 simp (disch := omega) [if_pos, if_neg, iteK_pos, iteK_neg, Tryz.f56]
 refine loop_use (dyn := []) (fun (a : Nat × Nat × List Span × Nat) => [w32 p.toNat, ws l, xx, xx, xx, xx, w64 a.2.1, .sref 0 0 0 a.2.2.1.length a.2.2.2 (2, false), xx, xx, w32 p.toNat, w64 p.toNat, ws l, ii l.length, ii a.1] ++ pois 18)
  (fun a => [[.row (cat eSpan a.2.2.1) a.2.2.2 2 true true]]) (fun a => a.1 ≤ l.length ∧ a.2.1 ≤ 4294967295 ∧ a.2.2.1.length = a.1 ∧ layFrom p.toNat l = (layFrom a.2.1 (l.drop a.1)).map (a.2.2.1 ++ ·)) (fun a => l.length - a.1) hint_56_0 (by kernel_rfl) ?_ (0, p.toNat, [], 0) ⟨by simp, by dsimp only; omega, rfl, by simp⟩ (by simp)
 rintro ⟨i, at_, acc, e⟩ ⟨hi, ha, hacc, hf⟩ IH
 rw [lpB_eq]
 dsimp only at hi ha hacc hf ⊢
 by_cases hlt : i < l.length
 ·have hx := l[i].toNat_lt
  rw [List.drop_eq_getElem_cons hlt, layFrom] at hf
  by_cases hbig : at_ + l[i].toNat > 4294967295
  ·rw [if_pos hbig] at hf
   rw [hf]
   simp (disch := omega) [if_pos, if_neg, iteK_pos, iteK_neg, hlt]
  ·rw [if_neg hbig] at hf
   have ho : (UInt32.ofNat at_).toNat = at_ := by rw [UInt32.toNat_ofNat']; omega
   simp (disch := omega) [if_pos, if_neg, iteK_pos, iteK_neg, hlt]
   refine IH (i + 1, at_ + l[i].toNat, acc ++ [⟨UInt32.ofNat at_, l[i]⟩], e + 1) _ _ ⟨by dsimp only; omega, by dsimp only; omega, by simp [hacc], ?_⟩ (by dsimp only; omega) (by simp [cat_append, cat_cons, ho])
   dsimp only
   rw [hf]
   cases layFrom (at_ + l[i].toNat) (l.drop (i + 1)) <;> simp
 ·obtain rfl : i = l.length := by omega
  simp (disch := omega) [if_pos, if_neg, iteK_pos, iteK_neg, hf, layFrom]
end Go.Proofs.YtfplmcpkagpaiaaGreatDoor
end
section
namespace Go.Proofs.YtfplmcpkagpaiaaGreatDoor
open Go Go.Sim
attribute [local simp] width32 width8 has32
theorem With32_at {s : V} {l : List UInt8} {n x : Int} {B : List Blk} {r : Heap} (hv : viewArgs (B :: r) [s, .int .i64 n, .int .u32 x] = some [bs l, .int .i64 n, .int .u32 x]) (h0 : 0 ≤ n) (hx : 0 ≤ x) (hx' : x < 4294967296) (hl : l.length < 2 ^ 40) (h : n + 4 ≤ l.length) :
  callV E (om E) 85 [s, .int .i64 n, .int .u32 x] (B :: r) =
  some (.tuple [.sref 0 (B.length + 1) 0 l.length 0 (1, false), ii 0], (B ++ [.row [] 0 1 true true, .row (cat eU8 (with4 l n.toNat (UInt32.ofNat x.toNat))) 0 1 true true]) :: r) := by
 obtain ⟨m, rfl⟩ := Int.eq_ofNat_of_zero_le h0
 obtain ⟨y, rfl⟩ := Int.eq_ofNat_of_zero_le hx
 have := With32_body l m (UInt32.ofNat y) hl (by omega)
 rw [UInt32.toNat_ofNat', Nat.mod_eq_of_lt (by omega)] at this
 rw [call_85, hv]
 simp (disch := omega) [if_pos, if_neg, iteK_pos, iteK_neg, this]
theorem With32I (l : List UInt8) (n x : Int) (h0 : 0 ≤ n) (hx : 0 ≤ x) (hx' : x < 4294967296) (hl : l.length < 2 ^ 40) (h : n + 4 ≤ l.length) (B : List Blk) (r : Heap) : callV E (om E) 85 [bs l, .int .i64 n, .int .u32 x] (B :: r) =
  some (.tuple [.sref 0 (B.length + 1) 0 l.length 0 (1, false), ii 0], (B ++ [.row [] 0 1 true true, .row (cat eU8 (with4 l n.toNat (UInt32.ofNat x.toNat))) 0 1 true true]) :: r) :=
 With32_at (by simp (disch := omega) [if_pos, if_neg, iteK_pos, iteK_neg]) h0 hx hx' hl h
theorem stackMay (lent) (n : UInt32) : pureV E (om E) 39 lent [w32 n.toNat] = some (bb (decide (n.toNat % 4 = 0 ∧ 64 ≤ n.toNat ∧ n.toNat ≤ 32768))) := by
 apply pu_39
 by_cases h1 : n.toNat % 4 = 0 <;> by_cases h2 : 64 ≤ n.toNat <;> simp (disch := omega) [if_pos, if_neg, iteK_pos, iteK_neg, Tryz.f39, h1, h2]
 all_goals omega
theorem sealed_body (l : List UInt8) (hl : l.length < 2 ^ 40) (h : 64 ≤ l.length) : bodyV E (om E) 57 [bs l] [[]] = some (.sref 0 3 0 l.length 0 (1, false), [[.row [] 0 1 true true, .row (cat eU8 (with4 l 8 0)) 0 1 true true, .row [] 0 1 true true, .row (cat eU8 (with4 (with4 l 8 0) 8 (adler (with4 l 8 0)))) 0 1 true true]]) := by
 apply bo_57
 have hlen := with4_length (l := l) (n := 8) 0 (by omega)
 have hlt := (adler (with4 l 8 0)).toNat_lt
 have e8 : V.scon (V.canonL (cutCells (cat eU8 (with4 l 8 0)) 0 l.length 1)) 0 l.length false = bs (with4 l 8 0) := res_lst eU8 hlen.symm rfl
 have hw := With32_at (s := .sref 0 1 0 l.length 0 (1, false)) (l := with4 l 8 0) (n := 8) (x := ((adler (with4 l 8 0)).toNat : Int)) (B := [.row [] 0 1 true true, .row (cat eU8 (with4 l 8 0)) 0 1 true true]) (r := []) (by simp (disch := omega) [if_pos, if_neg, iteK_pos, iteK_neg, e8, hlen]) (by omega) (by omega) (by omega) (by omega) (by omega)
 simp (disch := omega) [if_pos, if_neg, iteK_pos, iteK_neg, Tryz.f57, With32I, Sum, e8, hlen, hw]
end Go.Proofs.YtfplmcpkagpaiaaGreatDoor
end
section
namespace Go.Proofs.YtfplmcpkagpaiaaGreatDoor
open Go Go.Sim
attribute [local simp] width32 width8 has32
def sealP (l : List UInt8) : List UInt8 := with4 (with4 l 8 0) 8 (adler (with4 l 8 0))
theorem sealP_length (l : List UInt8) (h : 12 ≤ l.length) : (sealP l).length = l.length := by
 unfold sealP; rw [with4_length, with4_length] <;> (try rw [with4_length]) <;> omega
end Go.Proofs.YtfplmcpkagpaiaaGreatDoor
end
section
namespace Go.Proofs.YtfplmcpkagpaiaaGreatDoor
open Go Go.Sim
structure Export where
 name : List UInt8
 place : UInt32
 deriving DecidableEq
def eExport : Enc Export where
 enc i := [.str i.name, w32 i.place.toNat]
 k := 2
 pos := by omega
 len := fun _ => rfl
 canon := fun _ => by simp
 flat := fun _ => by simp
 ok := fun _ => by simp
@[simp] theorem eExport_k : eExport.k = 2 := rfl
@[simp] theorem eExport_enc (s) : eExport.enc s = [.str s.name, w32 s.place.toNat] := rfl
@[simp] theorem plain_eExport (l : List Export) : V.plainL (cat eExport l) = true := cat_plain eExport (fun _ => by simp) l
@[simp] theorem cut_eExport (l : List Export) : cutCells (cat eExport l) 0 l.length 2 = cat eExport l := cut_all eExport rfl rfl
@[simp] theorem fold_eExport (l : List Export) : V.scon (cat eExport l) 0 l.length false = lst eExport l := rfl
def nameOk (l : List Export) (i : Nat) : Bool :=
 match l[i]? with
 | none => false
 | some x => decide (1 ≤ x.name.length ∧ x.name.length ≤ 32) && (decide (i = 0) || match l[i - 1]? with | none => false | some y => (!Op.bytesLess x.name y.name && !(x.name == y.name)))
theorem nameMay (lent) (l : List Export) (i : Nat) (hi : i < l.length) (hl : l.length < 2 ^ 40) : pureV E (om E) 41 lent [lst eExport l, ii i] = some (bb (nameOk l i)) := by
 apply pu_41
 unfold nameOk
 by_cases h1 : 1 ≤ l[i].name.length
 ·by_cases h2 : l[i].name.length ≤ 32
  ·by_cases h3 : i = 0
   ·subst h3
    simp (disch := omega) [if_pos, if_neg, iteK_pos, iteK_neg, Tryz.f41, h1, h2]
   ·have hN : ((i : Int) - 1).toNat = i - 1 := by omega
    simp (disch := omega) [if_pos, if_neg, iteK_pos, iteK_neg, Tryz.f41, h1, h2, h3, hN]
  ·simp (disch := omega) [if_pos, if_neg, iteK_pos, iteK_neg, Tryz.f41, h1, h2]
 ·simp (disch := omega) [if_pos, if_neg, iteK_pos, iteK_neg, Tryz.f41, h1]
end Go.Proofs.YtfplmcpkagpaiaaGreatDoor
end
