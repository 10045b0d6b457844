/-
  words: the same words in memory of their own.
  replies: the same replies in memory of their own.
-/
import Derived.Test.YtijfffbhhlmgmaaGreatDoorVa
section
namespace Go.Proofs.YtijfffbhhlmgmaaGreatDoor
open Go Go.Sim Go.Sim.Tape
set_option maxRecDepth 100000
set_option maxHeartbeats 0
set_option linter.unusedSimpArgs false
set_option linter.unusedVariables false

def wordsR (n : Nat) (l : List UInt32) : V := if l = [] then .nilslice else .sref 0 n 0 l.length 0 (1, false)
def wordsB (l : List UInt32) : List Blk := if l = [] then [] else [.row (cat eU32 l) 0 1 true true]
theorem words_body (l : List UInt32) (hl : l.length * 4 ≤ 140737488351232) : bodyV E (om E) 14 [ws l] [[]] = some (wordsR 0 l, [wordsB l]) := by
  apply bo_14
  by_cases h : l = []
  · subst h
    simp (disch := omega) [if_pos, if_neg, iteK_pos, iteK_neg, Tryz.f14, wordsR, wordsB]
  · have hp : 0 < l.length := by cases l with | nil => exact absurd rfl h | cons => simp
    simp (disch := omega) [if_pos, if_neg, iteK_pos, iteK_neg, Tryz.f14, wordsR, wordsB, h]
theorem words_at (l : List UInt32) (hl : l.length * 4 ≤ 140737488351232) (B : List Blk) (r : Heap) : callV E (om E) 14 [ws l] (B :: r) = some (wordsR B.length l, (B ++ wordsB l) :: r) := by
  rw [call_14]
  have hv : viewArgs (B :: r) [ws l] = some [ws l] := by simp
  rw [hv]
  simp only [Option.bind_some, words_body l hl]
  by_cases h : l = []
  · subst h
    simp [wordsR, wordsB]
  · simp [wordsR, wordsB, h]
end Go.Proofs.YtijfffbhhlmgmaaGreatDoor
end
section
namespace Go.Proofs.YtijfffbhhlmgmaaGreatDoor
open Go Go.Sim Go.Sim.Tape
set_option maxRecDepth 100000
set_option maxHeartbeats 0
set_option linter.unusedSimpArgs false
set_option linter.unusedVariables false

def sc : V → Bool
  | .int _ _ | .nilslice | .scon _ _ _ _ => true
  | _ => false
theorem sc_view {n : Nat} {H : Heap} {v : V} (h : sc v = true) : V.view (n + 1) H v = some v := by
  cases v <;> first | (cases h; done) | simp only [V.view]
theorem sc_views {n : Nat} {H : Heap} : ∀ {R : List V}, R.all sc = true → optMap (V.view (n + 1) H) R = some R
  | [], _ => by simp [optMap]
  | v :: R, h => by
    simp only [List.all_cons, Bool.and_eq_true] at h
    simp [optMap, sc_view h.1, sc_views h.2]
structure Lk {α : Type} (e : Enc α) (l : List α) (R : List V) : Prop where
  canon : V.canonL R = cat e l
  len : R.length = l.length * e.k
  flat : V.flatL R = true
  ok : okCells R = true
  one : R.all sc = true
theorem Lk.nil {α : Type} (e : Enc α) : Lk e [] [] := ⟨by simp, by simp, by simp, by simp, by simp⟩
theorem settle_app (n : Nat) (H : Heap) : ∀ a b : List V, V.settleL n H (a ++ b) = V.settleL n H a ++ V.settleL n H b
  | [], b => by simp
  | x :: a, b => by simp [settle_app n H a b]
theorem Lk.views {α : Type} {e : Enc α} {l : List α} {R : List V} (h : Lk e l R) (n : Nat) (H : Heap) : optMap (V.view (n + 1) H) R = some R := sc_views h.one
theorem Lk.cut {α : Type} {e : Enc α} {l : List α} {R : List V} (h : Lk e l R) {n k : Nat} (hn : n = l.length) (hk : k = e.k) : cutCells R 0 n k = R := by
  unfold cutCells
  subst hn hk
  rw [if_neg (by have := e.pos; omega), List.drop_zero, List.take_of_length_le (by rw [h.len]; omega)]
theorem Lk.settle {α : Type} {e : Enc α} {l : List α} {R : List V} (h : Lk e l R) (n : Nat) (H : Heap) : V.settleL n H R = R := settleL_flat n H R h.flat
theorem Lk.settle2 {α : Type} {e : Enc α} {l : List α} {R c : List V} (h : Lk e l R) (hc : V.flatL c = true) (n : Nat) (H : Heap) : V.settleL n H (R ++ c) = R ++ c := settleL_flat n H _ (flatL_append h.flat hc)
@[simp] theorem ite_row (b p : Bool) (X : List V) (e z : Nat) : (if b = true then Blk.row X e z b p else Blk.row X e z false false) = Blk.row X e z b (b && p) := by cases b <;> rfl
def wrC (w : Wr) : List V := [u32V w.at_, if w.bytes = [] then .nilslice else bs w.bytes]
def wrCs (l : List Wr) : List V := l.flatMap wrC
def rpC (r : Rp) : List V := [u32V r.val, .scon (wrCs r.writes) 0 r.writes.length false]
def rpCs (l : List Rp) : List V := l.flatMap rpC
theorem lk_all {α : Type} (e : Enc α) (f : α → List V) (h1 : ∀ x, V.canonL (f x) = e.enc x) (h2 : ∀ x, (f x).length = e.k) (h3 : ∀ x, V.flatL (f x) = true) (h4 : ∀ x, okCells (f x) = true) (h5 : ∀ x, (f x).all sc = true) : ∀ l : List α, Lk e l (l.flatMap f)
  | [] => Lk.nil e
  | x :: l => by
    have h := lk_all e f h1 h2 h3 h4 h5 l
    rw [List.flatMap_cons]
    exact ⟨by rw [canonL_append, h1, h.canon]; rfl, by rw [List.length_append, h2, h.len, List.length_cons, Nat.add_mul]; omega, flatL_append (h3 x) h.flat, by rw [okCells_append, h4, h.ok]; rfl, by rw [List.all_append, h5, h.one]; rfl⟩
theorem wrCs_lk (l : List Wr) : Lk eWr l (wrCs l) := lk_all eWr wrC (fun x => by unfold wrC; split <;> simp [*]) (fun _ => rfl) (fun x => by unfold wrC; split <;> simp) (fun x => by unfold wrC; split <;> simp) (fun x => by unfold wrC; split <;> rfl) l
theorem rpCs_lk (l : List Rp) : Lk eRp l (rpCs l) := lk_all eRp rpC (fun x => by simp [rpC, (wrCs_lk x.writes).canon]) (fun _ => rfl) (fun x => by simp [rpC, (wrCs_lk x.writes).flat]) (fun x => by simp [rpC]) (fun x => rfl) l
theorem wrCs_next {l : List Wr} {i : Nat} (h : i < l.length) : wrCs (l.take (i + 1)) = wrCs (l.take i) ++ wrC l[i] := by unfold wrCs; rw [take_snoc h, List.flatMap_append]; simp
theorem rpCs_next {l : List Rp} {i : Nat} (h : i < l.length) : rpCs (l.take (i + 1)) = rpCs (l.take i) ++ rpC l[i] := by unfold rpCs; rw [take_snoc h, List.flatMap_append]; simp
@[simp] theorem prmB2_poison (o esz : Nat) (T : List V) (h : Heap) : prmB2 .poison o esz T h = some (T, h) := rfl
theorem replies_body (l : List Rp) (hl : l.length * 32 ≤ 140737488351232) (hf : ∀ r ∈ l, FRp r) : bodyV E (om E) 15 [lst eRp l] [[]] =
    some (.sref 0 0 0 l.length l.length (2, false), [[.row (rpCs l) l.length 2 (decide (l.length = 0)) (decide (l.length = 0))]]) := by
  apply bo_15
  simp (disch := omega) [if_pos, if_neg, iteK_pos, iteK_neg, Tryz.f15]
  refine loop_chg (dyn := []) (fun (p : Nat) => [(3, .sref 0 0 0 p p (2, false)), (4, ii p)]) (fun _ => []) (fun p => [.row (rpCs (l.take p)) p 2 (decide (p = 0)) (decide (p = 0))])
    (fun p => p ≤ l.length) (fun p => l.length - p) hint_15_0 (by kernel_rfl) ?_ 0 (by simp) (by simp [rpCs])
  rintro i hi IH
  rw [lpB_eq]
  dsimp only
  have hR := rpCs_lk (l.take i)
  have hRn := fun (h : i < l.length) => rpCs_next h
  have hRl : i = l.length → rpCs (l.take i) = rpCs l := fun h => by rw [h, List.take_length]
  generalize rpCs (l.take i) = R at hR hRn hRl IH ⊢
  generalize hfl : decide (i = 0) = fl at IH ⊢
  have hlen : R.length = i * 2 := by rw [hR.len, List.length_take, Nat.min_eq_left hi]; rfl
  have htake : R.take (i * 2) = R := List.take_of_length_le (by omega)
  have hflat := hR.flat
  have hok := hR.ok
  by_cases hil : i < l.length
  · simp (disch := omega) [if_pos, if_neg, iteK_pos, iteK_neg, hil]
    have hrep := hf l[i] (List.getElem_mem _)
    have w1 := hrep.writes
    have w2 := hrep.each
    refine loop_chg (dyn := []) (fun (p : Nat × Bool × Bool) => [(6, ii p.1)]) (fun p => [(0, 0, .row R i 2 fl fl), (0, 1, .row [u32V l[i].val, .sref 0 2 0 p.1 p.1 (2, false)] 0 2 false false)]) (fun p => [.row (wrCs (l[i].writes.take p.1)) p.1 2 p.2.1 p.2.2])
      (fun p => p.1 ≤ l[i].writes.length) (fun p => l[i].writes.length - p.1) hint_15_1 (by kernel_rfl) ?_ (0, true, true) (by simp) (by simp [wrCs])
    rintro ⟨j, fl2, pl2⟩ hj IHj
    dsimp only at hj
    rw [lpB_eq]
    dsimp only
    have hR2 := wrCs_lk (l[i].writes.take j)
    have hRn2 := fun (h : j < l[i].writes.length) => wrCs_next h
    have hfull : j = l[i].writes.length → wrCs (l[i].writes.take j) = wrCs l[i].writes := fun h => by rw [h, List.take_length]
    generalize wrCs (l[i].writes.take j) = R2 at hR2 hRn2 hfull ⊢
    have hlen2 : R2.length = j * 2 := by rw [hR2.len, List.length_take, Nat.min_eq_left hj]; rfl
    have htake2 : R2.take (j * 2) = R2 := List.take_of_length_le (by omega)
    have hflat2 := hR2.flat
    have hok2 := hR2.ok
    have hsR := hR.settle
    by_cases hjl : j < l[i].writes.length
    · have hb := (w2 l[i].writes[j] (List.getElem_mem _)).bytes
      clear IH
      by_cases he : l[i].writes[j].bytes = []
      · have hs2 := fun (n : Nat) (H : Heap) => hR2.settle2 (c := [V.int IntKind.u32 ↑l[i].writes[j].at_.toNat, V.nilslice]) (by simp) n H
        simp (disch := omega) [if_pos, if_neg, iteK_pos, iteK_neg, hil, hjl, he, hlen2, htake2, hok2, hflat2, hsR, hs2]
        refine IHj (j + 1, fl2, fl2 && pl2) _ _ (by dsimp only; omega) (by dsimp only; omega) (by simp [hRn2 hjl, wrC, he])
      · have hbl : 0 < l[i].writes[j].bytes.length := by
          cases h : l[i].writes[j].bytes with
          | nil => exact absurd h he
          | cons _ _ => simp
        have hs2 := hR2.settle
        simp (disch := omega) [if_pos, if_neg, iteK_pos, iteK_neg, hil, hjl, he, hlen2, htake2, hok2, hflat2, hsR, hs2, settle_app]
        refine IHj (j + 1, false, false) _ _ (by dsimp only; omega) (by dsimp only; omega) (by simp [hRn2 hjl, wrC, he])
    · clear IHj
      obtain rfl : j = l[i].writes.length := by omega
      have hsR2 := hR2.settle
      have hcR2 := hR2.canon
      have hvR2 := fun (H : Heap) => hR2.views 48 H
      have hcut := hR2.cut (n := l[i].writes.length) (k := 2) (by simp) rfl
      rw [List.take_length] at hR2 hcR2
      simp (disch := omega) [if_pos, if_neg, iteK_pos, iteK_neg, hil, hjl, hlen, htake, hok, hflat, hsR, hsR2, hvR2, hcut, settle_app]
      have hfull := hfull rfl
      refine IH (i + 1) _ _ (by omega) (by omega) (by simp [hRn hil, rpC, ← hfull])
  · clear IH
    obtain rfl : i = l.length := by omega
    have hRe := hRl rfl
    subst hRe hfl
    simp (disch := omega) [if_pos, if_neg, iteK_pos, iteK_neg]
theorem replies_at (l : List Rp) (hl : l.length * 32 ≤ 140737488351232) (hf : ∀ r ∈ l, FRp r) (B : List Blk) (r : Heap) : callV E (om E) 15 [lst eRp l] (B :: r) =
    some (.sref 0 B.length 0 l.length l.length (2, false), (B ++ [.row (rpCs l) l.length 2 (decide (l.length = 0)) (decide (l.length = 0))]) :: r) := by
  rw [call_15]
  have hv : viewArgs (B :: r) [lst eRp l] = some [lst eRp l] := by simp
  rw [hv]
  simp only [Option.bind_some, replies_body l hl hf]
  have ho := outL_flat B.length (rpCs l) (rpCs_lk l).flat
  simp [ho]
end Go.Proofs.YtijfffbhhlmgmaaGreatDoor
end
