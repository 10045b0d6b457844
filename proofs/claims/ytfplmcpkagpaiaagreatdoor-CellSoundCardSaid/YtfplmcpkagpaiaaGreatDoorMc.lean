/-
 The machine of values: calls, by their modes.
 The machine of values: calls by contents.
 The machine of values: a round of a range over a function.
 The machine of values: every operation, calls and all.
 The machine of values: code.
 The machine of values: kinds of operations, for regions that draw their order.
 The machine of values: kinds of operations, calls of named functions and all.
 The machine of values: what an operation looks at; the trace of a region.
 The machine of values: regions that draw their order.
-/
import Derived.Test.YtfplmcpkagpaiaaGreatDoorMb
import Derived.ScopeJumps
set_option linter.unusedSimpArgs false
set_option linter.unusedVariables false
section
namespace Go.Sim
open Go
section
variable {ok ok2 ok' : Nat → Nat → Prop} {w w' : World} {B B' : Bd} {p : Array Oper → Bool} {h : Heap}
def Bd.in_ (B : Bd) : Bd := fun d j => if d = 0 then .out else B (d - 1) j
theorem Bd.in_from (B : Bd) (d : Nat) : B.in_.from_ (d + 1) = B.from_ d := by
 funext d' j; simp only [Bd.from_, Bd.in_]
 rw [if_neg (by omega)]
 congr 1; omega
theorem Heap.get_cons (l : List Blk) (d j : Nat) : Heap.get (l :: h) (d + 1) j = h.get d j := by simp [Heap.get]
theorem Heap.get_tail (d j : Nat) : Heap.get h.tail d j = h.get (d + 1) j := by
 cases h <;> simp [Heap.get]
theorem HR.enter (hh : HR ok w B p h) : HR ok w B.in_ p ([] :: h) where
 gl := hh.gl
 pos := by simp
 blk := fun d j => by
  cases d with
  | zero => trivial
  | succ d =>
   rw [Bd.in_from, Heap.get_cons]
   have : B.in_ (d + 1) j = B d j := by simp [Bd.in_]
   rw [this]; exact hh.blk d j
 inj := fun d j d' j' b hb hb' => by
  unfold Bd.in_ at hb hb'
  split at hb
  ·simp [Ent.blk] at hb
  ·split at hb'
   ·simp [Ent.blk] at hb'
   ·obtain ⟨h1, h2⟩ := hh.inj _ _ _ _ b hb hb'
    exact ⟨by omega, h2⟩
 lt := fun d j b hb => by
  unfold Bd.in_ at hb
  split at hb
  ·simp [Ent.blk] at hb
  ·exact hh.lt _ _ b hb
 okn := fun b n hb => ⟨(hh.okn b n hb).1, fun d j hm => by
  unfold Bd.in_ at hm ⊢
  split at hm
  ·simp [Ent.blk] at hm
  ·rename_i hc; rw [if_neg hc]; exact (hh.okn b n hb).2 _ _ hm⟩
theorem Ext.leave (hx : Ext ok B.in_ w ok' B' w') : Ext ok B w (Cut ok' B' 0) (B'.from_ 1) w' where
 size := hx.size
 os := hx.os
 tape := hx.tape
 output := hx.output
 same := fun b hb hu => hx.same b hb fun d j hm => by
  unfold Bd.in_ at hm
  split at hm
  ·simp [Ent.blk] at hm
  ·exact hu _ _ hm
 okLe := fun b n hb hlt => ⟨.inl (hx.okLe b n hb hlt).1, (hx.okLe b n hb hlt).2⟩
 okOf := fun b n hb h => by
  rcases h with h | ⟨j, ep, esz, _, hb'⟩
  ·rcases hx.okOf b n hb h with h | ⟨d, j, h⟩
   ·exact .inl h
   ·unfold Bd.in_ at h
    split at h
    ·simp [Ent.blk] at h
    ·exact .inr ⟨_, _, h⟩
  ·have := hx.new 0 j b (by rw [hb']; rfl) hb
   simp [Bd.in_, Ent.blk] at this
 ent := fun d j => by
  have := hx.ent (1 + d) j
  unfold Bd.in_ at this
  rw [if_neg (by omega), show 1 + d - 1 = d from by omega] at this
  exact this
 new := fun d j b hb hlt => by
  have := hx.new (1 + d) j b hb hlt
  unfold Bd.in_ at this
  rw [if_neg (by omega), show 1 + d - 1 = d from by omega] at this
  exact this
theorem HR.leave (hh : HR ok w B p h) (hl : 1 < h.length) : HR (Cut ok B 0) w (B.from_ 1) p h.tail where
 gl := hh.glm (fun b n hb => .inl hb) fun _ _ _ => rfl
 pos := by simp; omega
 blk := fun d j => by
  rw [Bd.from_from, Heap.get_tail]
  have := (hh.blk (1 + d) j).okmono (ok2 := Cut ok B 0) (fun b n hb => .inl hb)
  rw [Nat.add_comm d 1]
  exact this
 inj := fun d j d' j' b hb hb' => by
  obtain ⟨h1, h2⟩ := hh.inj _ _ _ _ b hb hb'
  exact ⟨by omega, h2⟩
 lt := fun d j b hb => hh.lt _ _ b hb
 okn := fun b n hb => by
  rcases hb with hb | ⟨j, ep, esz, _, hb⟩
  ·exact ⟨(hh.okn b n hb).1, fun d j hm => (hh.okn b n hb).2 _ _ hm⟩
  ·have hb : (B 0 j).blk = some b := by rw [hb]; rfl
   refine ⟨hh.lt 0 j b hb, fun d j' hm => ?_⟩
   have := (hh.inj _ _ _ _ b hm hb).1
   omega
theorem view_top (hh : HR ok w B p h) : ViewH ok (Cut ok B 0) w B [h.top] := by
 have := view_cut hh 0
 simpa using this
theorem in_up (B : Bd) {args : List V} {args' : List Value} (ha : VRelL ok w B args args') : VRelL ok w B.in_ (V.upL 1 args) args' := by
 apply VRelL.up
 rw [Bd.in_from B 0, Bd.from_zero]; exact ha
def Ent.still : Ent → Ent
 | .loop _ => .dead
 | .it _ => .dead
 | e => e
theorem Ent.still_blk {e : Ent} {b : Nat} (h : e.still.blk = some b) : e.blk = some b := by cases e <;> first | exact h | simp [Ent.still, Ent.blk] at h
theorem Ent.still_pre {e : Ent} {n : Nat} (h : e.pre n) : e.still.pre n := by cases e <;> first | exact h | exact h.elim
theorem Ent.still_cases (e : Ent) : e.still = e ∨ ∃ l, (e = .loop l ∨ e = .it l) ∧ e.still = .dead := by cases e <;> first | exact .inl rfl | exact .inr ⟨_, .inl rfl, rfl⟩ | exact .inr ⟨_, .inr rfl, rfl⟩
theorem outBlk_rel {k : Nat} (hb : OutB k B B') {e : Ent} {ob : Option Blk} (h : BlkR ok w B p e ob) : BlkR ok w B' p e.still (ob.map (outBlk k)) := by
 cases e with
 | out => trivial
 | dead => simp only [BlkR] at h; subst h; rfl
 | loop l =>
  obtain ⟨fn, tmps, ps, a, c, r, pd, L, h1, _⟩ := h
  subst h1; rfl
 | mp b =>
  obtain ⟨es, h1, h2⟩ := h
  subst h1
  exact ⟨es, rfl, h2⟩
 | it b =>
  obtain ⟨m, since, seen, last, h1, _⟩ := h
  subst h1; rfl
 | row b ep esz =>
  obtain ⟨cells, flat, plain, h1, h2, h3, h4⟩ := h
  subst h1
  simp only [Ent.still, Option.map_some, outBlk]
  cases flat with
  | true => exact ⟨cells, true, plain, rfl, h2, h3, h4.to id fun l hl => ORelL.flat _ _ (h2 rfl) hl⟩
  | false => exact ⟨_, false, false, rfl, by simp, by simp, h4.to (fun h => by subst h; rfl) fun l hl => outO_rel hb _ _ hl⟩
def Bd.live (B : Bd) (k : Nat) : Bd := fun d j => if d = 0 then (if j < k then B 1 j else (B 0 (j - k)).still) else B (d + 1) j
theorem live_sound (hh : HR ok' w' B' p h) (hl : 1 < h.length) (hx : Ext ok B.in_ w ok' B' w') {r : V} {v : Value} (hv : VRel ok' w' B' r v) :
  After p ok B w h.tail.length (Heap.setTop h.tail (Heap.top h.tail ++ h.top.map (outBlk (Heap.top h.tail).length))) (V.out (Heap.top h.tail).length r) ok' (B'.live (Heap.top h.tail).length) w' v := by
 have hpos : 0 < h.tail.length := by simp; omega
 have htop : ∀ j, (Heap.top h.tail).length ≤ j → B' 1 j = .out := by
  intro j hj
  apply hh.none_out
  rw [← Heap.get_tail, Heap.get_top hpos, List.getElem?_eq_none hj]
 have hO : OutB (Heap.top h.tail).length B' (B'.live (Heap.top h.tail).length) := by
  refine ⟨fun j => ?_, fun d j => ?_⟩
  ·have : B'.live (Heap.top h.tail).length 0 ((Heap.top h.tail).length + j) = (B' 0 j).still := by
    simp only [Bd.live]; rw [if_pos trivial, if_neg (by omega), Nat.add_sub_cancel_left]
   rw [this]
   rcases Ent.still_cases (B' 0 j) with h | ⟨l, h1, h2⟩
   ·exact .inr (.inl h)
   ·exact .inr (.inr ⟨l, h1, h2⟩)
  ·cases d with
   | zero =>
    by_cases hj : j < (Heap.top h.tail).length
    ·right; simp only [Bd.live]; rw [if_pos trivial, if_pos hj]
    ·left; exact htop j (by omega)
   | succ d => right; simp only [Bd.live]; rw [if_neg (by omega)]
 have hidx : ∀ d j b, (B'.live (Heap.top h.tail).length d j).blk = some b → ∃ d0 j0, (B' d0 j0).blk = some b ∧
   ((d = 0 ∧ j < (Heap.top h.tail).length ∧ d0 = 1 ∧ j0 = j) ∨ (d = 0 ∧ (Heap.top h.tail).length ≤ j ∧ d0 = 0 ∧ j0 = j - (Heap.top h.tail).length) ∨ (0 < d ∧ d0 = d + 1 ∧ j0 = j)) := by
  intro d j b hb
  unfold Bd.live at hb
  split at hb
  ·split at hb
   ·exact ⟨1, j, hb, .inl ⟨by assumption, by assumption, rfl, rfl⟩⟩
   ·exact ⟨0, _, Ent.still_blk hb, .inr (.inl ⟨by assumption, by omega, rfl, rfl⟩)⟩
  ·exact ⟨d + 1, j, hb, .inr (.inr ⟨by omega, rfl, rfl⟩)⟩
 refine ⟨⟨hx.size, hx.os, hx.tape, hx.output, fun b hb hu => hx.leave.same b hb hu, hx.okLe, fun b n hb hn => (hx.okOf b n hb hn).imp id fun ⟨d, j, h⟩ => by
   unfold Bd.in_ at h
   split at h
   ·simp [Ent.blk] at h
   ·exact ⟨_, _, h⟩, fun d j => ?_, fun d j b hb hlt => ?_⟩, ⟨by rw [Heap.length_setTop]; exact hpos, fun d j => ?_, fun d j d' j' b hb hb' => ?_, fun d j b hb => ?_, fun b n hb => ⟨(hh.okn b n hb).1, fun d j hm => ?_⟩, hh.gl⟩, out_rel hO _ _ hv, by rw [Heap.length_setTop]⟩
 ·have he := hx.leave.ent d j
  simp only [Bd.from_] at he
  unfold Bd.live
  split
  ·rename_i hd; subst hd
   split
   ·exact he
   ·rename_i hj
    simp only [Nat.add_zero] at he
    rw [htop j (by omega)] at he
    cases hB : B 0 j with
    | out => trivial
    | dead => rw [hB] at he; simp [EntLe] at he
    | loop l => rw [hB] at he; simp [EntLe] at he
    | mp l => rw [hB] at he; simp [EntLe] at he
    | it l => rw [hB] at he; simp [EntLe] at he
    | row b ep esz => rw [hB] at he; simp [EntLe] at he
  ·rw [Nat.add_comm d 1]; exact he
 ·obtain ⟨d0, j0, hb0, hc⟩ := hidx d j b hb
  have hn := hx.new d0 j0 b hb0 hlt
  unfold Bd.in_ at hn
  rcases hc with ⟨rfl, _, rfl, rfl⟩ | ⟨_, _, rfl, _⟩ | ⟨_, rfl, rfl⟩
  ·simpa using hn
  ·simp [Ent.blk] at hn
  ·simpa using hn
 ·rw [Heap.get_setTop hpos]
  cases d with
  | zero =>
   rw [if_pos rfl, Bd.from_zero, List.getElem?_append]
   by_cases hj : j < (Heap.top h.tail).length
   ·rw [if_pos hj]
    have he : B'.live (Heap.top h.tail).length 0 j = B' 1 j := by simp only [Bd.live]; rw [if_pos trivial, if_pos hj]
    have hb := hh.blk 1 j
    rw [← Heap.get_tail, Heap.get_top hpos] at hb
    rw [he]
    exact hb.bmono fun d j => by simp only [Bd.from_]; rw [Nat.add_comm 1 d]; exact hO.up d j
   ·rw [if_neg hj]
    have he : B'.live (Heap.top h.tail).length 0 j = (B' 0 (j - (Heap.top h.tail).length)).still := by simp only [Bd.live]; rw [if_pos trivial, if_neg hj]
    have hb := hh.blk 0 (j - (Heap.top h.tail).length)
    rw [Heap.get_top hh.pos, Bd.from_zero] at hb
    rw [he, List.getElem?_map]
    exact outBlk_rel hO hb
  | succ d =>
   rw [if_neg (by omega), Heap.get_tail]
   have he : B'.live (Heap.top h.tail).length (d + 1) j = B' (d + 2) j := by simp only [Bd.live]; rw [if_neg (by omega)]
   have hf : (B'.live (Heap.top h.tail).length).from_ (d + 1) = B'.from_ (d + 2) := by
    funext d' j'
    simp only [Bd.from_, Bd.live]
    rw [if_neg (by omega)]
    congr 1; omega
   rw [he, hf]
   exact hh.blk (d + 2) j
 ·obtain ⟨d0, j0, hb0, hc⟩ := hidx d j b hb
  obtain ⟨d1, j1, hb1, hc1⟩ := hidx d' j' b hb'
  obtain ⟨e1, e2⟩ := hh.inj _ _ _ _ b hb0 hb1
  omega
 ·obtain ⟨d0, j0, hb0, hc⟩ := hidx d j b hb
  exact hh.lt _ _ b hb0
 ·unfold Bd.live at hm ⊢
  split at hm
  ·rename_i h0
   rw [if_pos h0]
   split at hm
   ·rename_i h1
    rw [if_pos h1]; exact (hh.okn b n hb).2 _ _ hm
   ·rename_i h1
    rw [if_neg h1]; exact Ent.still_pre ((hh.okn b n hb).2 _ _ (Ent.still_blk hm))
  ·rename_i h0
   rw [if_neg h0]; exact (hh.okn b n hb).2 _ _ hm
end
end Go.Sim
end
section
namespace Go.Sim
open Go
section
variable {ok ok2 ok' : Nat → Nat → Prop} {w w' : World} {B B' : Bd} {p : Array Oper → Bool} {h : Heap}
structure Inner (p : Array Oper → Bool) (ok : Nat → Nat → Prop) (w : World) (h1 : Heap) (r : V) (ok2 : Nat → Nat → Prop) (B2 : Bd) (w' : World) (v : Value) : Prop where
 size : w.heap.size ≤ w'.heap.size
 os : w'.os = w.os
 tape : w'.tape = w.tape
 output : w'.output = w.output
 same : ∀ b, b < w.heap.size → w'.heap[b]? = w.heap[b]?
 okEq : ∀ b n, b < w.heap.size → (ok2 b n ↔ ok b n)
 new : ∀ d j b, (B2 d j).blk = some b → w.heap.size ≤ b
 heap : HR ok2 w' B2 p h1
 up : ∀ d j, B2 (d + 1) j = .out
 val : VRel ok2 w' B2 r v
theorem outer_kept {h1 : Heap} {r : V} {v : Value} (hi : Inner p ok w h1 r ok2 B' w' v) (hh : HR ok w B p h) : HR ok w' B p h :=
 hh.world hi.size (fun b n hb => hi.same b (hh.okn b n hb).1) (fun d j b hb => hi.same b (hh.lt d j b hb))
theorem pure_sound {h1 : Heap} {r r' : V} {v : Value} (hi : Inner p ok w h1 r ok2 B' w' v) (hh : HR ok w B p h) (hf : V.freeze [h1.top] r = some r') :
  After p ok B w h.length h (V.canon r') (Cut ok2 B' 0) B w' v := by
 have hsame : ∀ d j b, (B d j).blk = some b → w'.heap[b]? = w.heap[b]? := fun d j b hb => hi.same b (hh.lt d j b hb)
 have hokin : ∀ b n, ok b n → Cut ok2 B' 0 b n := fun b n hb => .inl ((hi.okEq b n (hh.okn b n hb).1).2 hb)
 have hcut : ∀ b n, b < w.heap.size → (Cut ok2 B' 0 b n ↔ ok b n) := by
  intro b n hb
  constructor
  ·rintro (h | ⟨j, ep, esz, _, h⟩)
   ·exact (hi.okEq b n hb).1 h
   ·have := hi.new 0 j b (by rw [h]; rfl); omega
  ·exact fun h => .inl ((hi.okEq b n hb).2 h)
 have hv := canon_rel _ _ (freeze_rel (fun b n hb => (.inl hb : Cut ok2 B' 0 b n)) (view_top hi.heap) _ _ _ hf hi.val)
 have hB : B'.from_ 1 = Bd.none_ := by
  funext d j
  simp only [Bd.from_, Bd.none_]
  rw [Nat.add_comm]; exact hi.up d j
 rw [hB] at hv
 have hw := outer_kept hi hh
 refine ⟨⟨hi.size, hi.os, hi.tape, hi.output, fun b hb _ => hi.same b hb, fun b n hb hlt => ⟨(hcut b n hlt).2 hb, fun _ _ => cell?_of_heap (hi.same b hlt)⟩, fun b n hlt hb => .inl ((hcut b n hlt).1 hb), fun d j => EntLe.refl _ fun b hb => ?_, fun _ _ _ h _ => h⟩, ⟨hw.pos, fun d j => (hw.blk d j).okmono hokin, hw.inj, hw.lt, fun b n hb => ⟨?_, fun d j hm => ?_⟩, hw.glm hokin fun _ _ _ => rfl⟩, hv.any, rfl⟩
 ·simp only [csize, hsame d j b hb]; exact Nat.le_refl _
 ·rcases hb with hb | ⟨j, ep, esz, _, hb⟩
  ·exact (hi.heap.okn b n hb).1
  ·exact hi.heap.lt 0 j b (by rw [hb]; rfl)
 ·have hlt := hh.lt d j b hm
  exact (hh.okn b n ((hcut b n hlt).1 hb)).2 d j hm
def Bd.graft (B B2 : Bd) (k : Nat) : Bd := fun d j => if d = 0 ∧ k ≤ j then (B2 0 (j - k)).still else B d j
theorem graft_sound {h1 : Heap} {r : V} {v : Value} (hi : Inner p ok w h1 r ok2 B' w' v) (hh : HR ok w B p h) :
  After p ok B w h.length (h.setTop (h.top ++ h1.top.map (outBlk h.top.length))) (V.out h.top.length r) ok2 (B.graft B' h.top.length) w' v := by
 have hokin : ∀ b n, ok b n → ok2 b n := fun b n hb => (hi.okEq b n (hh.okn b n hb).1).2 hb
 have hsame : ∀ d j b, (B d j).blk = some b → w'.heap[b]? = w.heap[b]? := fun d j b hb => hi.same b (hh.lt d j b hb)
 have hO : OutB h.top.length B' (B.graft B' h.top.length) := by
  refine ⟨fun j => ?_, fun d j => .inl (hi.up d j)⟩
  have : B.graft B' h.top.length 0 (h.top.length + j) = (B' 0 j).still := by
   simp only [Bd.graft]; rw [if_pos ⟨trivial, by omega⟩, Nat.add_sub_cancel_left]
  rw [this]
  rcases Ent.still_cases (B' 0 j) with h | ⟨l, h1, h2⟩
  ·exact .inr (.inl h)
  ·exact .inr (.inr ⟨l, h1, h2⟩)
 have hBm : ∀ d j, B d j = .out ∨ B.graft B' h.top.length d j = B d j := by
  intro d j
  by_cases hc : d = 0 ∧ h.top.length ≤ j
  ·obtain ⟨rfl, hj⟩ := hc; exact .inl (hh.top_lt hj)
  ·right; simp only [Bd.graft]; rw [if_neg hc]
 have hidx : ∀ d j b, (B.graft B' h.top.length d j).blk = some b → (d = 0 ∧ h.top.length ≤ j ∧ (B' 0 (j - h.top.length)).blk = some b) ∨ (¬ (d = 0 ∧ h.top.length ≤ j) ∧ (B d j).blk = some b) := by
  intro d j b hb
  unfold Bd.graft at hb
  split at hb
  ·rename_i hc; exact .inl ⟨hc.1, hc.2, Ent.still_blk hb⟩
  ·rename_i hc; exact .inr ⟨hc, hb⟩
 have hw := outer_kept hi hh
 refine ⟨⟨hi.size, hi.os, hi.tape, hi.output, fun b hb _ => hi.same b hb, fun b n hb hlt => ⟨(hi.okEq b n hlt).2 hb, fun _ _ => cell?_of_heap (hi.same b hlt)⟩, fun b n hlt hb => .inl ((hi.okEq b n hlt).1 hb), fun d j => ?_, fun d j b hb hlt => ?_⟩, ⟨by rw [Heap.length_setTop]; exact hh.pos, fun d j => ?_, fun d j d' j' b hb hb' => ?_, fun d j b hb => ?_, fun b n hb => ⟨(hi.heap.okn b n hb).1, fun d j hm => ?_⟩, hi.heap.gl⟩, out_rel hO _ _ hi.val, by rw [Heap.length_setTop]⟩
 ·rcases hBm d j with h | h
  ·rw [h]; trivial
  ·rw [h]; exact EntLe.refl _ fun b hb => by simp only [csize, hsame d j b hb]; exact Nat.le_refl _
 ·rcases hidx d j b hb with ⟨_, _, h⟩ | ⟨_, h⟩
  ·have := hi.new _ _ _ h; omega
  ·exact h
 ·rw [Heap.get_setTop hh.pos]
  by_cases hc : d = 0 ∧ h.top.length ≤ j
  ·obtain ⟨rfl, hj⟩ := hc
   rw [if_pos rfl, Bd.from_zero, List.getElem?_append, if_neg (by omega), List.getElem?_map]
   have he : B.graft B' h.top.length 0 j = (B' 0 (j - h.top.length)).still := by simp only [Bd.graft]; rw [if_pos ⟨trivial, hj⟩]
   have hb := hi.heap.blk 0 (j - h.top.length)
   rw [Heap.get_top hi.heap.pos, Bd.from_zero] at hb
   rw [he]
   exact outBlk_rel hO hb
  ·have he : B.graft B' h.top.length d j = B d j := by simp only [Bd.graft]; rw [if_neg hc]
   have hg : (if d = 0 then (h.top ++ h1.top.map (outBlk h.top.length))[j]? else h.get d j) = h.get d j := by
    split
    ·rename_i hd; subst hd
     rw [List.getElem?_append, if_pos (by omega), Heap.get_top hh.pos]
    ·rfl
   rw [he, hg]
   refine ((hw.blk d j).okmono hokin).bmono fun d' j' => ?_
   exact hBm (d + d') j'
 ·rcases hidx d j b hb with ⟨rfl, hj, h1⟩ | ⟨hc, h1⟩
  ·rcases hidx d' j' b hb' with ⟨rfl, hj', h2⟩ | ⟨hc', h2⟩
   ·obtain ⟨_, h3⟩ := hi.heap.inj _ _ _ _ b h1 h2
    exact ⟨rfl, by omega⟩
   ·have := hi.new _ _ _ h1; have := hh.lt _ _ _ h2; omega
  ·rcases hidx d' j' b hb' with ⟨rfl, hj', h2⟩ | ⟨hc', h2⟩
   ·have := hi.new _ _ _ h2; have := hh.lt _ _ _ h1; omega
   ·exact hh.inj _ _ _ _ b h1 h2
 ·rcases hidx d j b hb with ⟨_, _, h⟩ | ⟨_, h⟩
  ·exact hi.heap.lt _ _ _ h
  ·exact Nat.lt_of_lt_of_le (hh.lt _ _ _ h) hi.size
 ·unfold Bd.graft at hm ⊢
  split at hm
  ·rename_i hc
   rw [if_pos hc]; exact Ent.still_pre ((hi.heap.okn b n hb).2 _ _ (Ent.still_blk hm))
  ·rename_i hc
   rw [if_neg hc]
   have hlt := hh.lt d j b hm
   exact (hh.okn b n ((hi.okEq b n hlt).1 hb)).2 d j hm
theorem viewArgs_flat : ∀ (l l' : List V) (cs : List Value), V.flatL l = true → viewArgs h l = some l' → VRelL ok w B l cs → VRelL ok w Bd.none_ l' cs
 | [], l', cs, _, h, hr => by
  simp only [viewArgs, Option.some.injEq] at h; subst h
  simp only [VRelL] at hr ⊢; exact hr
 | v :: r, l', cs, hf, h, hr => by
  simp only [V.flatL, Bool.and_eq_true] at hf
  simp only [viewArgs, hf.1, if_true, Option.bind_some, Option.bind_eq_some_iff, Option.some.injEq] at h
  obtain ⟨r', hr', rfl⟩ := h
  simp only [VRelL] at hr ⊢
  obtain ⟨c, l2, rfl, h1, h2⟩ := hr
  exact ⟨c, l2, rfl, canon_rel _ _ (VRel.flat _ _ hf.1 h1), viewArgs_flat r r' l2 hf.2 hr' h2⟩
theorem viewArgs_any (hok : ∀ b n, ok b n → ok2 b n) (hV : ViewH ok ok2 w B h) : ∀ (l l' : List V) (cs : List Value), viewArgs h l = some l' → VRelL ok w B l cs → VRelL ok2 w Bd.none_ l' cs
 | [], l', cs, h, hr => by
  simp only [viewArgs, Option.some.injEq] at h; subst h
  simp only [VRelL] at hr ⊢; exact hr
 | v :: r, l', cs, h, hr => by
  simp only [viewArgs, Option.bind_eq_some_iff, Option.some.injEq] at h
  obtain ⟨v', hv, r', hr', rfl⟩ := h
  simp only [VRelL] at hr ⊢
  obtain ⟨c, l2, rfl, h1, h2⟩ := hr
  refine ⟨c, l2, rfl, canon_rel _ _ ?_, viewArgs_any hok hV r r' l2 hr' h2⟩
  split at hv
  ·rename_i hf
   simp only [Option.some.injEq] at hv; subst hv
   exact VRel.okmono hok (VRel.flat _ _ hf h1)
  ·exact view_rel hok 50 h B hV _ _ _ hv h1
def Lent (ok : Nat → Nat → Prop) (B : Bd) : Nat → Nat → Prop := fun b n => ok b n ∨ ∃ d j, (B d j).blk = some b
theorem view_lent (hh : HR ok w B p h) : ViewH ok (Lent ok B) w B h := by
 intro d j cells ep esz flat plain hg hn
 obtain ⟨b, h1, h2, _, h4⟩ := hh.row hg hn
 exact ⟨b, h1, h2, h4, fun b0 hb _ => .inr ⟨d, j, by rw [h1, hb]; rfl⟩⟩
theorem HR.empty (hok : ∀ b n, ok b n → b < w.heap.size) (hG : Gl p ok w := by (intro g h; cases h)) : HR ok w Bd.none_ p [[]] where
 gl := hG
 pos := by simp
 blk := fun d j => trivial
 inj := fun d j d' j' b hb => by simp [Bd.none_, Ent.blk] at hb
 lt := fun d j b hb => by simp [Bd.none_, Ent.blk] at hb
 okn := fun b n hb => ⟨hok b n hb, fun d j hm => by simp [Bd.none_, Ent.blk] at hm⟩
theorem HR.own {okN : Nat → Nat → Prop} (hh : HR ok w B p h) (hN : ∀ b n, okN b n → b < w.heap.size ∧ ∀ d j, (B d j).blk ≠ some b) (hG : Gl p okN w) : HR okN w (B.own h) p h := by
 have hsub : ∀ d j, B.own h d j = .out ∨ B.own h d j = B d j := by
  intro d j
  cases d with
  | succ d => exact .inl rfl
  | zero =>
   simp only [Bd.own]
   split
   ·exact .inr rfl
   ·exact .inl rfl
 have hblk : ∀ d j b, (B.own h d j).blk = some b → (B d j).blk = some b := by
  intro d j b hb
  rcases hsub d j with h | h
  ·rw [h] at hb; simp [Ent.blk] at hb
  ·rw [h] at hb; exact hb
 refine ⟨hh.pos, fun d j => ?_, fun d j d' j' b hb hb' => hh.inj _ _ _ _ b (hblk _ _ _ hb) (hblk _ _ _ hb'), fun d j b hb => hh.lt _ _ b (hblk _ _ _ hb), fun b n hb => ⟨(hN b n hb).1, fun d j hm => absurd (hblk _ _ _ hm) ((hN b n hb).2 d j)⟩, hG⟩
 cases d with
 | succ d => trivial
 | zero =>
  have hb := hh.blk 0 j
  simp only [Bd.own]
  split
  ·rename_i cells ep esz hg
   rw [hg] at hb
   refine hb.to (fun h => by simp at h) (fun cells ep esz flat plain h hf hp => ?_) (fun fn tmps ps a c r pd h => by simp at h) (fun es h => by simp at h) (fun m since seen last h => by simp at h)
   simp only [Option.some.injEq, Blk.row.injEq] at h
   obtain ⟨rfl, rfl, rfl, rfl, rfl⟩ := h
   exact ⟨_, true, true, hg, hf, hp, id, fun l hl => ORelL.plain _ _ (hp rfl) hl⟩
  ·trivial
theorem HR.strip {okN : Nat → Nat → Prop} (hh : HR ok w B p h) (hN : ∀ b n, okN b n → b < w.heap.size ∧ ∀ d j, (B d j).blk ≠ some b) (hG : Gl p okN w) : HR okN w B.strip p (h.setTop (h.top.map stripBlk)) := by
 have hsub : ∀ d j, B.strip d j = .out ∨ B.strip d j = B d j := by
  intro d j
  cases d with
  | succ d => exact .inl rfl
  | zero =>
   simp only [Bd.strip]
   split
   ·exact .inl rfl
   ·exact .inl rfl
   ·exact .inr rfl
 have hblk : ∀ d j b, (B.strip d j).blk = some b → (B d j).blk = some b := by
  intro d j b hb
  rcases hsub d j with h | h
  ·rw [h] at hb; simp [Ent.blk] at hb
  ·rw [h] at hb; exact hb
 refine ⟨by rw [Heap.length_setTop]; exact hh.pos, fun d j => ?_, fun d j d' j' b hb hb' => hh.inj _ _ _ _ b (hblk _ _ _ hb) (hblk _ _ _ hb'), fun d j b hb => hh.lt _ _ b (hblk _ _ _ hb), fun b n hb => ⟨(hN b n hb).1, fun d j hm => absurd (hblk _ _ _ hm) ((hN b n hb).2 d j)⟩, hG⟩
 cases d with
 | succ d => trivial
 | zero =>
  have hb := hh.blk 0 j
  have hg : (h.setTop (h.top.map stripBlk)).get 0 j = (h.get 0 j).map stripBlk := by
   rw [Heap.get_setTop hh.pos, Heap.get_top hh.pos]; simp
  rw [hg]
  have hB : B.strip.from_ 0 = B.strip := by funext d j; simp [Bd.from_]
  have hB0 : B.from_ 0 = B := by funext d j; simp [Bd.from_]
  rw [hB]
  rw [hB0] at hb
  cases hE : B 0 j with
  | loop l => simp only [Bd.strip, hE]; trivial
  | mp l =>
   rw [hE] at hb
   simp only [Bd.strip, hE]
   obtain ⟨es, h1, h2⟩ := hb
   rw [h1]
   exact ⟨es, rfl, h2⟩
  | it l => simp only [Bd.strip, hE]; trivial
  | out => simp only [Bd.strip, hE]; trivial
  | dead => rw [hE] at hb; simp only [Bd.strip, hE]; simp only [BlkR] at hb ⊢; rw [hb]; rfl
  | row b ep esz =>
   rw [hE] at hb
   simp only [Bd.strip, hE]
   refine hb.to (fun h => by simp only [BlkR] at hb; obtain ⟨_, _, _, hb, _⟩ := hb; rw [hb] at h; cases h) (fun cells ep esz flat plain h hf hp => ?_) (fun fn tmps ps a c r pd h => by simp only [BlkR] at hb; obtain ⟨_, _, _, hb, _⟩ := hb; rw [hb] at h; cases h) (fun es h => by simp only [BlkR] at hb; obtain ⟨_, _, _, hb, _⟩ := hb; rw [hb] at h; cases h) (fun m since seen last h => by simp only [BlkR] at hb; obtain ⟨_, _, _, hb, _⟩ := hb; rw [hb] at h; cases h)
   rw [h]
   simp only [Option.map_some, stripBlk]
   split
   ·rename_i hpl
    exact ⟨_, _, _, rfl, hf, hp, id, fun l hl => ORelL.plain _ _ (hp hpl) hl⟩
   ·exact ⟨_, false, false, rfl, fun h => Bool.noConfusion h, fun h => Bool.noConfusion h, fun h => by subst h; rfl, fun l hl => stripO_rel _ _ hl⟩
theorem inner_strip {P : Program} {f : FuncId} {args args1 : List V} {r : V} {h1 : Heap} (hc : CallS P p f args1 [[]] r h1) (hh : HR ok w B p h) {args' : List Value} (ha : VRelL ok w B args args')
  (hv : viewArgs h args = some args1) {R : Ending → World → Prop}
  (hR : ∀ ok2 B2 w' v, Inner p ok w (h1.setTop (h1.top.map stripBlk)) (V.strip r) ok2 B2 w' v → R (.returned v) w') : CallsIn Fence.wide 0 P f args'.toArray w R := by
 have hlok : ∀ b n, Lent ok B b n → b < w.heap.size := by
  rintro b n (hb | ⟨d, j, hb⟩)
  ·exact (hh.okn b n hb).1
  ·exact hh.lt d j b hb
 refine hc (Lent ok B) Bd.none_ w args' R (HR.empty hlok (hh.glm (fun b n hb => .inl hb) fun _ _ _ => rfl)) (viewArgs_any (fun b n hb => .inl hb) (view_lent hh) _ _ _ hv ha) ?_
 intro ok' B' w' v ⟨hx, hh', hval, hlen⟩
 have hnew : ∀ d j b, (B' d j).blk = some b → w.heap.size ≤ b := by
  intro d j b hb
  rcases Nat.lt_or_ge b w.heap.size with hlt | hge
  ·have := hx.new d j b hb hlt; simp [Bd.none_, Ent.blk] at this
  ·exact hge
 have hown : HR ok w' B'.strip p (h1.setTop (h1.top.map stripBlk)) := hh'.strip (fun b n hb => ⟨Nat.lt_of_lt_of_le (hh.okn b n hb).1 hx.size, fun d j hm => by have := hnew d j b hm; have := (hh.okn b n hb).1; omega⟩) (hh.glm (fun _ _ h => h) fun b n hb => hx.same b (hh.okn b n hb).1 fun d j => by simp [Bd.none_, Ent.blk])
 refine hR ok B'.strip w' v ⟨hx.size, hx.os, hx.tape, hx.output, fun b hb => hx.same b hb fun d j => by simp [Bd.none_, Ent.blk], fun b _ _ => Iff.rfl, fun d j b hb => ?_, hown, fun d j => rfl, strip_rel _ _ hval⟩
 cases d with
 | succ d => simp [Bd.strip, Ent.blk] at hb
 | zero =>
  simp only [Bd.strip] at hb
  split at hb
  ·simp [Ent.blk] at hb
  ·simp [Ent.blk] at hb
  ·exact hnew 0 j b hb
theorem inner_of {P : Program} {f : FuncId} {args args1 : List V} {r : V} {h1 : Heap} (hc : CallS P p f args1 [[]] r h1) (hh : HR ok w B p h) {args' : List Value} (ha : VRelL ok w B args args')
  (hv : viewArgs h args = some args1) (hlent : (!V.flatL args && !V.own h1 r) = false) {R : Ending → World → Prop}
  (hR : ∀ ok2 B2 w' v, Inner p ok w h1 r ok2 B2 w' v → R (.returned v) w') : CallsIn Fence.wide 0 P f args'.toArray w R := by
 cases hf : V.flatL args with
 | true =>
  refine hc ok Bd.none_ w args' R (HR.empty (fun b n hb => (hh.okn b n hb).1) hh.gl) (viewArgs_flat _ _ _ hf hv ha) ?_
  intro ok' B' w' v ⟨hx, hh', hval, hlen⟩
  refine hR ok' B' w' v ⟨hx.size, hx.os, hx.tape, hx.output, fun b hb => hx.same b hb fun d j => by simp [Bd.none_, Ent.blk], fun b n hlt => ⟨fun h => (hx.okOf b n hlt h).elim id fun ⟨d, j, h⟩ => by simp [Bd.none_, Ent.blk] at h, fun h => (hx.okLe b n h hlt).1⟩, fun d j b hb => ?_, hh', fun d j => ?_, hval⟩
  ·rcases Nat.lt_or_ge b w.heap.size with hlt | hge
   ·have := hx.new d j b hb hlt; simp [Bd.none_, Ent.blk] at this
   ·exact hge
  ·apply hh'.none_out
   unfold Heap.get
   rw [List.getElem?_eq_none (by simp at hlen; omega)]; rfl
 | false =>
  rw [hf] at hlent
  simp only [Bool.not_false, Bool.true_and, Bool.not_eq_false'] at hlent
  have hlok : ∀ b n, Lent ok B b n → b < w.heap.size := by
   rintro b n (hb | ⟨d, j, hb⟩)
   ·exact (hh.okn b n hb).1
   ·exact hh.lt d j b hb
  refine hc (Lent ok B) Bd.none_ w args' R (HR.empty hlok (hh.glm (fun b n hb => .inl hb) fun _ _ _ => rfl)) (viewArgs_any (fun b n hb => .inl hb) (view_lent hh) _ _ _ hv ha) ?_
  intro ok' B' w' v ⟨hx, hh', hval, hlen⟩
  have hnew : ∀ d j b, (B' d j).blk = some b → w.heap.size ≤ b := by
   intro d j b hb
   rcases Nat.lt_or_ge b w.heap.size with hlt | hge
   ·have := hx.new d j b hb hlt; simp [Bd.none_, Ent.blk] at this
   ·exact hge
  have hown : HR ok w' (B'.own h1) p h1 := hh'.own (fun b n hb => ⟨Nat.lt_of_lt_of_le (hh.okn b n hb).1 hx.size, fun d j hm => by have := hnew d j b hm; have := (hh.okn b n hb).1; omega⟩) (hh.glm (fun _ _ h => h) fun b n hb => hx.same b (hh.okn b n hb).1 fun d j => by simp [Bd.none_, Ent.blk])
  refine hR ok (B'.own h1) w' v ⟨hx.size, hx.os, hx.tape, hx.output, fun b hb => hx.same b hb fun d j => by simp [Bd.none_, Ent.blk], fun b _ _ => Iff.rfl, fun d j b hb => ?_, hown, fun d j => rfl, own_rel _ _ hlent hval⟩
  cases d with
  | succ d => simp [Bd.own, Ent.blk] at hb
  | zero =>
   simp only [Bd.own] at hb
   split at hb
   ·exact hnew 0 j b hb
   ·simp [Ent.blk] at hb
def KnownOk (E : Env) (p : Array Oper → Bool) : Prop := ∀ f F, E.known f = some F → ∀ args h r h', F args h = some (r, h') → CallS E.P p f args h r h'
theorem call_sound {E : Env} {rec : Rec} {m : Nat} (hS : Sound E.P p rec m) (hE : FnOk E p) (hK : KnownOk E p) {f : FuncId} {args : List V} {r : V} {h' : Heap} (hc : callV E rec f args h = some (r, h')) :
  CallS E.P p f args h r h' := by
 unfold callV at hc
 split at hc
 ·rename_i F hF
  exact hK f F hF _ _ _ _ hc
 ·intro ok B w args' R hh ha hR
  split at hc
  ·simp only [Option.bind_eq_some_iff, Option.map_eq_some_iff, Prod.mk.injEq] at hc
   obtain ⟨args1, hv, r1, hp, rfl, rfl⟩ := hc
   unfold pureV at hp
   simp only [Option.bind_eq_some_iff] at hp
   obtain ⟨⟨r0, h1⟩, hb, hp⟩ := hp
   dsimp only at hp
   split at hp
   ·simp only [Option.map_eq_some_iff] at hp
    obtain ⟨r', hfr, rfl⟩ := hp
    refine inner_strip (body_sound hS hE hb) hh ha hv fun ok2 B2 w' v hi => hR _ _ _ _ (pure_sound hi hh (by rw [Heap.top_setTop (by have := hi.heap.pos; rw [Heap.length_setTop] at this; exact this)]; exact hfr))
   ·rename_i hl
    simp only [Option.map_eq_some_iff] at hp
    obtain ⟨r', hfr, rfl⟩ := hp
    refine inner_of (body_sound hS hE hb) hh ha hv (by simpa using hl) fun ok2 B2 w' v hi => hR _ _ _ _ (pure_sound hi hh hfr)
  ·simp only [Option.bind_eq_some_iff] at hc
   obtain ⟨args1, hv, ⟨r0, h1⟩, hb, hp⟩ := hc
   dsimp only at hp
   split at hp
   ·simp only [Option.some.injEq, Prod.mk.injEq] at hp
    obtain ⟨rfl, rfl⟩ := hp
    refine inner_strip (body_sound hS hE hb) hh ha hv fun ok2 B2 w' v hi => ?_
    have hg := graft_sound hi hh
    rw [Heap.top_mapTop] at hg
    exact hR _ _ _ _ hg
   ·rename_i hl
    simp only [Option.some.injEq, Prod.mk.injEq] at hp
    obtain ⟨rfl, rfl⟩ := hp
    refine inner_of (body_sound hS hE hb) hh ha hv (by simpa using hl) fun ok2 B2 w' v hi => hR _ _ _ _ (graft_sound hi hh)
  ·simp only [Option.bind_eq_some_iff] at hc
   obtain ⟨⟨r0, h1⟩, hb, hp⟩ := hc
   dsimp only at hp
   simp only [Option.some.injEq, Prod.mk.injEq] at hp
   obtain ⟨r', hfr, rfl, rfl⟩ := hp
   refine body_sound hS hE hb ok B.in_ w args' R hh.enter (in_up B ha) ?_
   intro ok' B' w' v ⟨hx, hh', hval, hlen⟩
   have hl1 : 1 < h1.length := by rw [hlen]; simp; exact hh.pos
   exact hR _ _ _ _ ⟨hx.leave, hh'.leave hl1, freeze_rel (fun b n hb => (.inl hb : Cut ok' B' 0 b n)) (view_top hh') _ _ _ hfr hval, by rw [List.length_tail, hlen]; simp⟩
  ·simp only [Option.bind_eq_some_iff] at hc
   obtain ⟨⟨r0, h1⟩, hb, hp⟩ := hc
   simp only [Option.some.injEq, Prod.mk.injEq] at hp
   obtain ⟨rfl, rfl⟩ := hp
   refine body_sound hS hE hb ok B.in_ w args' R hh.enter (in_up B ha) ?_
   intro ok' B' w' v ⟨hx, hh', hval, hlen⟩
   have hl1 : 1 < h1.length := by rw [hlen]; simp; exact hh.pos
   have hA := live_sound hh' hl1 hx hval
   have hlt : List.length (List.tail h1) = List.length h := by rw [List.length_tail, hlen]; simp
   rw [hlt] at hA
   exact hR _ _ _ _ hA
  ·exact body_sound hS hE hc ok B w args' R hh ha hR
end
end Go.Sim
end
section
namespace Go.Sim
open Go
section
variable {ok ok2 ok' : Nat → Nat → Prop} {w w' : World} {B B' : Bd} {p : Array Oper → Bool} {h : Heap}
theorem HR.dropd (hh : HR ok w B p h) {d : Nat} (hd : d < h.length) : HR ok w (B.from_ d) p (h.drop d) where
 pos := by simp; omega
 blk := fun d' j => by rw [Bd.from_from, Heap.get_drop]; exact hh.blk (d + d') j
 inj := fun d1 j d2 j' b hb hb' => by obtain ⟨h1, h2⟩ := hh.inj _ _ _ _ b hb hb'; exact ⟨by omega, h2⟩
 lt := fun d' j b hb => hh.lt _ _ b hb
 okn := fun b n hb => ⟨(hh.okn b n hb).1, fun d' j hm => (hh.okn b n hb).2 _ _ hm⟩
 gl := hh.gl
def Bd.low (B B3 : Bd) (d : Nat) : Bd := fun d' j => if d' < d then B d' j else B3 (d' - d) j
theorem Ext.low {d : Nat} (hx : Ext ok (B.from_ d) w ok' B' w') (hh : HR ok w B p h) : Ext ok B w ok' (B.low B' d) w' where
 size := hx.size
 os := hx.os
 tape := hx.tape
 output := hx.output
 same := fun b hb hu => hx.same b hb fun d' j => hu (d + d') j
 okLe := hx.okLe
 okOf := fun b n hlt h => (hx.okOf b n hlt h).imp id fun ⟨d1, j1, h⟩ => ⟨_, _, h⟩
 ent := fun d' j => by
  unfold Bd.low
  split
  ·rename_i hd
   refine EntLe.refl _ fun b hb => ?_
   have := hx.same b (hh.lt d' j b hb) fun d1 j1 hm => by have := (hh.inj _ _ _ _ b hb hm).1; omega
   simp only [csize, this]; exact Nat.le_refl _
  ·rename_i hd
   have := hx.ent (d' - d) j
   simp only [Bd.from_, show d + (d' - d) = d' from by omega] at this
   exact this
 new := fun d' j b hb hlt => by
  unfold Bd.low at hb
  split at hb
  ·exact hb
  ·have := hx.new (d' - d) j b hb hlt
   simp only [Bd.from_, show d + (d' - d) = d' from by omega] at this
   exact this
theorem HR.low {d : Nat} (hx : Ext ok (B.from_ d) w ok' B' w') (hh : HR ok w B p h) {h3 : Heap} (hd : d < h.length) (h3h : HR ok' w' B' p h3) : HR ok' w' (B.low B' d) p (h.take d ++ h3) := by
 have hX := hx.low hh
 have hget : ∀ d' j, Heap.get (h.take d ++ h3) d' j = if d' < d then h.get d' j else h3.get (d' - d) j := by
  intro d' j
  unfold Heap.get
  rw [List.getElem?_append, List.length_take, Nat.min_eq_left (by omega)]
  split
  ·rw [List.getElem?_take]; simp_all
  ·rfl
 have hfrom : ∀ d', d ≤ d' → (B.low B' d).from_ d' = B'.from_ (d' - d) := by
  intro d' hd'
  funext d1 j
  simp only [Bd.from_, Bd.low]
  rw [if_neg (by omega)]
  congr 1; omega
 have hcase : ∀ d' j b, (B.low B' d d' j).blk = some b → (d' < d ∧ (B d' j).blk = some b) ∨ (d ≤ d' ∧ (B' (d' - d) j).blk = some b) := by
  intro d' j b hb
  unfold Bd.low at hb
  split at hb
  ·exact .inl ⟨by assumption, hb⟩
  ·exact .inr ⟨by omega, hb⟩
 have hcross : ∀ d1 j1 d2 j2 b, d1 < d → (B d1 j1).blk = some b → (B' d2 j2).blk = some b → False := by
  intro d1 j1 d2 j2 b hd1 h1 h2
  have := hx.new d2 j2 b h2 (hh.lt _ _ b h1)
  have := (hh.inj _ _ _ _ b h1 this).1
  omega
 refine ⟨by rw [List.length_append]; have := h3h.pos; omega, fun d' j => ?_, fun d1 j1 d2 j2 b hb hb' => ?_, fun d' j b hb => ?_, fun b n hb => ⟨(h3h.okn b n hb).1, fun d' j hm => ?_⟩, h3h.gl⟩
 ·rw [hget]
  by_cases hd' : d' < d
  ·rw [if_pos hd']
   have he : B.low B' d d' j = B d' j := by unfold Bd.low; rw [if_pos hd']
   have := BlkR.mono hX hh d' j he (fun b hb => hx.same b (hh.lt d' j b hb) fun d1 j1 hm => by have := (hh.inj _ _ _ _ b hb hm).1; omega) (hh.blk d' j)
   exact this
  ·rw [if_neg hd', hfrom d' (by omega)]
   have he : B.low B' d d' j = B' (d' - d) j := by unfold Bd.low; rw [if_neg hd']
   rw [he]
   exact h3h.blk (d' - d) j
 ·rcases hcase d1 j1 b hb with ⟨e1, f1⟩ | ⟨e1, f1⟩
  ·rcases hcase d2 j2 b hb' with ⟨e2, f2⟩ | ⟨e2, f2⟩
   ·exact hh.inj _ _ _ _ b f1 f2
   ·exact (hcross _ _ _ _ b e1 f1 f2).elim
  ·rcases hcase d2 j2 b hb' with ⟨e2, f2⟩ | ⟨e2, f2⟩
   ·exact (hcross _ _ _ _ b e2 f2 f1).elim
   ·obtain ⟨g1, g2⟩ := h3h.inj _ _ _ _ b f1 f2
    exact ⟨by omega, g2⟩
 ·rcases hcase d' j b hb with ⟨e1, f1⟩ | ⟨e1, f1⟩
  ·exact Nat.lt_of_lt_of_le (hh.lt _ _ b f1) hx.size
  ·exact h3h.lt _ _ b f1
 ·unfold Bd.low at hm ⊢
  split at hm
  ·rename_i hd'
   rw [if_pos hd']
   rcases hx.okOf b n (hh.lt _ _ b hm) hb with h | ⟨d1, j1, h⟩
   ·exact (hh.okn b n h).2 _ _ hm
   ·have := (hh.inj _ _ _ _ b hm h).1; omega
  ·rename_i hd'
   rw [if_neg hd']; exact (h3h.okn b n hb).2 _ _ hm
theorem loop_put (hh : HR ok w B p h) {d j l : Nat} (hE : B d j = .loop l) {fn : FuncId} {tmps : List V} {ps : List Tmp} {a c : Code} {r r2 : Bool} {pd pd2 : Option Code} (hg : h.get d j = some (.loop fn tmps ps a c r pd))
  {L L2 : Loop} (hL : w.heap[l]? = some (.loop L)) (hL2 : ∀ (B : Bd) (w : World), LoopR ok w B p fn tmps ps a c r pd L → LoopR ok w B p fn tmps ps a c r2 pd2 L2) :
  Ext ok B w ok B (w.putObj l (.loop L2)) ∧ HR ok (w.putObj l (.loop L2)) B p (h.set d j (.loop fn tmps ps a c r2 pd2)) := by
 have hbk : (B d j).blk = some l := by rw [hE]; rfl
 have hlt : l < w.heap.size := lt_of_heap hL
 have hcs : ∀ b, csize (w.putObj l (.loop L2)) b = csize w b := by
  intro b
  unfold csize
  by_cases hb : b = l
  ·subst hb; rw [World.putObj_heap_same hlt, hL]
  ·rw [World.putObj_heap_other hb]
 have hx : Ext ok B w ok B (w.putObj l (.loop L2)) :=
  ⟨by rw [World.putObj_size]; exact Nat.le_refl _, rfl, rfl, rfl, fun b _ hu => World.putObj_heap_other fun e => hu d j (by rw [hbk, e]), OkLe.row hh (b1 := l) (fun n hn i hi => by have := hh.frozen hbk hn; rw [hE] at this; exact this.elim) (fun k _ hne => World.putObj_heap_other hne), fun _ _ _ h => .inl h, fun d' j' => EntLe.refl _ fun b _ => by rw [hcs]; exact Nat.le_refl _, fun _ _ _ h _ => h⟩
 refine ⟨hx, ⟨by rw [Heap.length_set]; exact hh.pos, fun d' j' => ?_, hh.inj, fun d' j' b hb => by rw [World.putObj_size]; exact hh.lt _ _ b hb, fun b n hb => ⟨by rw [World.putObj_size]; exact (hh.okn b n hb).1, (hh.okn b n hb).2⟩, hh.glx hx⟩⟩
 rw [Heap.get_set hg]
 by_cases hq : d' = d ∧ j' = j
 ·obtain ⟨rfl, rfl⟩ := hq
  rw [if_pos ⟨rfl, rfl⟩, hE]
  have hb := hh.blk d' j'
  rw [hE, hg] at hb
  obtain ⟨fn', tmps', ps', a', c', r', pd', L', e1, e2, e3⟩ := hb
  simp only [Option.some.injEq, Blk.loop.injEq] at e1
  obtain ⟨rfl, rfl, rfl, rfl, rfl, rfl, rfl⟩ := e1
  rw [hL] at e2
  simp only [Option.some.injEq, Obj.loop.injEq] at e2; subst e2
  have e4 := hL2 _ _ e3
  refine ⟨_, _, _, _, _, _, _, L2, rfl, World.putObj_heap_same hlt, ?_⟩
  obtain ⟨k1, k2, k3, k4, k5⟩ := e4
  exact ⟨k1, k2, k3, hx.vrelL_from hh d' k4, k5⟩
 ·rw [if_neg hq]
  exact BlkR.mono hx hh d' j' rfl (fun b hb => World.putObj_heap_other fun e => by subst e; exact hq (hh.inj _ _ _ _ b hb hbk)) (hh.blk d' j')
theorem HR.loop (hh : HR ok w B p h) {d j : Nat} {fn : FuncId} {tmps : List V} {ps : List Tmp} {a c : Code} {r : Bool} {pd : Option Code} (hg : h.get d j = some (.loop fn tmps ps a c r pd)) (hn : B d j ≠ .out) :
  ∃ l L, B d j = .loop l ∧ w.heap[l]? = some (.loop L) ∧ LoopR ok w (B.from_ d) p fn tmps ps a c r pd L := by
 have hb := hh.blk d j
 rw [hg] at hb
 cases hE : B d j with
 | out => exact absurd hE hn
 | dead => rw [hE] at hb; simp [BlkR] at hb
 | mp l => rw [hE] at hb; simp [BlkR] at hb
 | it l => rw [hE] at hb; simp [BlkR] at hb
 | row b ep esz => rw [hE] at hb; obtain ⟨cells, flat, plain, h1, _⟩ := hb; cases h1
 | loop l =>
  rw [hE] at hb
  obtain ⟨fn', tmps', ps', a', c', r', pd', L', e1, e2, e3⟩ := hb
  simp only [Option.some.injEq, Blk.loop.injEq] at e1
  obtain ⟨rfl, rfl, rfl, rfl, rfl, rfl, rfl⟩ := e1
  exact ⟨l, L', rfl, e2, e3⟩
theorem setArgs_rel : ∀ {ps : List Tmp} {args : List V} {args' : List Value} {tmps : List V} {tmps' : Array Value}, VRelL ok w B tmps tmps'.toList → VRelL ok w B args args' →
  VRelL ok w B (setArgs tmps ps args) ((ps.zip args').foldl (fun tmps (x : Tmp × Value) => tmps.setIfInBounds x.1 x.2) tmps').toList
 | [], args, args', tmps, tmps', ht, ha => by simpa [setArgs] using ht
 | q :: ps, [], args', tmps, tmps', ht, ha => by simp only [VRelL] at ha; subst ha; simpa [setArgs] using ht
 | q :: ps, v :: vs, args', tmps, tmps', ht, ha => by
  simp only [VRelL] at ha
  obtain ⟨c, l, rfl, hv, hr⟩ := ha
  simp only [setArgs, List.zip_cons_cons, List.foldl_cons]
  refine setArgs_rel ?_ hr
  rw [Array.toList_setIfInBounds]
  exact ht.set _ hv
theorem round_sound {P : Program} {rec : Rec} {m : Nat} (hS : Sound P p rec m) {d j : Nat} {args : List V} {r : V} {h' : Heap} (hc : roundV rec d j args h = some (r, h')) (hh : HR ok w B p h)
  {fv : Value} (hf : VRel ok w B (.yield d j) fv) {args' : List Value} (ha : VRelL ok w B args args') :
  ∃ l L, fv = .func (.yield l) #[] #[] ∧ w.heap[l]? = some (.loop L) ∧ args'.toArray.size = L.params.size ∧
   ∀ (F : Fence) (R : Ending → World → Prop), FW F → (∀ ok' B' w' v, After p ok B w h.length h' r ok' B' w' v → R (.returned v) w') →
    RoundIn F 0 P l L.fn ((L.params.zip args'.toArray).foldl (fun tmps (t, a) => tmps.setIfInBounds t a) L.tmps) L.assign L.body w R := by
 unfold roundV at hc
 split at hc
 ·rename_i fn tmps ps assign body hg
  have hno : B d j ≠ .out := by intro hE; simp only [VRel, hE] at hf
  obtain ⟨l, L, hE, hL, hLR⟩ := hh.loop hg hno
  simp only [VRel, hE] at hf
  obtain ⟨k1, k2, k3, k4, ⟨k5, k5'⟩, ⟨k6, k6'⟩, k7⟩ := hLR
  have hdl : d < h.length := by
   rcases Nat.lt_or_ge d h.length with h1 | h1
   ·exact h1
   ·unfold Heap.get at hg; rw [List.getElem?_eq_none h1] at hg; cases hg
  split at hc
  ·rename_i hlen
   have hsz : args'.toArray.size = L.params.size := by
    have h1 := ha.length
    have h2 : L.params.toList.length = ps.length := by rw [k1]
    simp at h2 ⊢; omega
   refine ⟨l, L, hf, hL, hsz, fun F R hF hR => ?_⟩
   simp only [Option.bind_eq_some_iff] at hc
   obtain ⟨args1, hdn, hc⟩ := hc
   have ha1 : VRelL ok w (B.from_ d) args1 args' := by
    split at hdn
    ·rename_i h0; subst h0
     simp only [Option.some.injEq] at hdn; subst hdn
     rwa [Bd.from_zero]
    ·exact VRelL.down d _ _ _ hdn ha
   split at hc
   ·rename_i s1 hrec1
    split at hc
    ·rename_i fn' tmps' ps' a' b' hg1
     split at hc
     ·rename_i e s2 hrec2
      simp only [Option.bind_eq_some_iff] at hc
      obtain ⟨pj, hpj, hc⟩ := hc
      split at hc
      ·rename_i fn2 tmps2 ps2 a2 b2 r2 pd2 hg2
       simp only [Option.some.injEq, Prod.mk.injEq] at hc
       obtain ⟨rfl, rfl⟩ := hc
       have hF1 : FW (F.inRound l) := by rcases hF with rfl | ⟨l', rfl⟩ <;> exact .inr ⟨l, rfl⟩
       refine roundIn_of_wpIn (hF.fn _) ?_
       have htm : VRelL ok w (B.from_ d) (setArgs tmps ps args1) ((L.params.zip args'.toArray).foldl (fun tmps (t, a) => tmps.setIfInBounds t a) L.tmps).toList := by
        have := setArgs_rel (ps := ps) k4 ha1
        rw [← k1] at this
        rw [← Array.foldl_toList, Array.toList_zip]
        rw [k1] at this ⊢
        exact this
       rw [k2, k3]
       refine hS.code _ _ _ _ hrec1 _ ⟨w.heap.size, [], false⟩ ok (B.from_ d) w _ _ ⟨k5, hF1, fun _ => k5', ⟨hh.dropd hdl, htm, [], List.nodup_nil, rfl, rfl, fun _ => rfl, by simp [lefts]⟩, Nat.le_refl _, ?_⟩
       intro ok1 B1 w1 a1 hx1 hs1 hlen1
       have hB1 : B1 0 j = .loop l := by
        have he := hx1.ent 0 j
        simp only [Bd.from_, Nat.add_zero, hE] at he
        rcases he with he | he
        ·have := hs1.heap.blk 0 j
         rw [he, hg1] at this; simp [BlkR] at this
        ·exact he
       obtain ⟨l1, L1, e1, e2, e3⟩ := hs1.heap.loop hg1 (by rw [hB1]; simp)
       rw [hB1] at e1
       simp only [Ent.loop.injEq] at e1; subst e1
       obtain ⟨q1, q2, q3, q4, ⟨q5, q5'⟩, ⟨q6, q6'⟩, q7⟩ := e3
       have hready : L1.state = .ready := by
        rcases q7 with ⟨_, _, h, _⟩ | ⟨h, _⟩ | ⟨_, h, _⟩
        ·exact h
        ·cases h
        ·cases h
       obtain ⟨hx2, hh2⟩ := loop_put hs1.heap hB1 hg1 e2 (L2 := { L1 with state := .busy }) (r2 := false) (pd2 := none) (fun B w ⟨x1, x2, x3, x4, x5, x6, _⟩ => ⟨x1, x2, x3, x4, x5, x6, .inr (.inl ⟨rfl, rfl, rfl⟩)⟩)
       refine ⟨_, run_beginRound e2 hready, ?_⟩
       have hm2 := Marks.ext hs1.marks hx2
       have hbody : body = b' ∨ True := .inr trivial
       -- the body that the round runs is the record's at the beginning
       refine hS.code _ _ _ _ hrec2 _ ⟨w.heap.size, [], false⟩ ok1 B1 _ _ _ ⟨k6, hF1, fun _ => k6', ⟨hh2, hx2.vrelL hs1.heap hs1.tmps, hm2⟩, Nat.le_trans hx1.size hx2.size, ?_⟩
       intro ok2 B2 w2 a2' hx3 hs2 hlen2
       have hB2 : B2 0 j = .loop l := by
        have he := hx3.ent 0 j
        rw [hB1] at he
        rcases he with he | he
        ·have := hs2.heap.blk 0 j
         rw [he, hg2] at this; simp [BlkR] at this
        ·exact he
       obtain ⟨l2, L2, f1, f2, f3⟩ := hs2.heap.loop hg2 (by rw [hB2]; simp)
       rw [hB2] at f1
       simp only [Ent.loop.injEq] at f1; subst f1
       have hxa := (hx1.trans hx2).trans hx3
       have fin : ∀ (jump : Option Code), jump = pj → (∀ c, jump = some c → goodCode p c = true) →
         ∃ v w', (Instr.endRound l jump).run P w2 = .ok v w' ∧ R (.returned v) w' := by
        intro jump hjump hgj
        subst hjump
        obtain ⟨hx4, hh4⟩ := loop_put hs2.heap hB2 hg2 f2 (L2 := { L2 with state := if jump.isNone then .ready else .done, pending := jump }) (r2 := jump.isNone) (pd2 := jump)
         (fun B w ⟨x1, x2, x3, x4, x5, x6, _⟩ => ⟨x1, x2, x3, x4, x5, x6, by
          cases jump with
          | none => exact .inl ⟨rfl, rfl, rfl, rfl⟩
          | some c => exact .inr (.inr ⟨c, rfl, rfl, rfl, rfl, hgj c rfl⟩)⟩)
        refine ⟨_, _, run_endRound jump f2, ?_⟩
        obtain ⟨t1, t2, t3⟩ := trim_rel (s := St.mk s2.fn [] (s2.heap.set 0 j (.loop fn2 tmps2 ps2 a2 b2 jump.isNone jump))) hh4 (l := []) (by simp [VRelL]) (Heap.top (h.drop d)).length
        have hdh := hh.dropd hdl
        have hxc := ((hxa.trans hx4).cutK (k := (Heap.top (h.drop d)).length) (g := Heap.keeps (s2.heap.set 0 j (.loop fn2 tmps2 ps2 a2 b2 jump.isNone jump))) fun j' hj' => hdh.top_lt hj')
        refine hR _ _ _ _ ⟨hxc.low hh, HR.low hxc hh hdl t1, by simp only [VRel], ?_⟩
        rw [List.length_append, t3]
        simp only [Heap.length_set, List.length_take, hlen2, hlen1, List.length_drop]
        omega
       cases e with
       | normal => simp only [Option.some.injEq] at hpj; exact fin none hpj (by simp)
       | ret => simp only [Option.some.injEq] at hpj; exact fin (some .ret) hpj (by rintro c hc; simp only [Option.some.injEq] at hc; subst hc; rfl)
       | exit id => simp only [Option.some.injEq] at hpj; exact fin (some (.exit id)) hpj (by rintro c hc; simp only [Option.some.injEq] at hc; subst hc; rfl)
       | goto t => simp only [Option.some.injEq] at hpj; exact fin (some (.goto t)) hpj (by rintro c hc; simp only [Option.some.injEq] at hc; subst hc; rfl)
       | panic _ => cases hpj
       | outgrown => cases hpj
      ·cases hc
     ·cases hc
    ·cases hc
   ·cases hc
  ·cases hc
 ·cases hc
end
end Go.Sim
end
section
namespace Go.Sim
open Go
section
variable {ok ok2 ok' : Nat → Nat → Prop} {w w' : World} {B B' : Bd} {p : Array Oper → Bool} {h : Heap}
theorem ssa_run {P : Program} (xt : TypeId) (o : Addr) (s m : String) : (Builtin.ssaWrapNilChk_ #[xt] xt #[.pointer (some o), strVal s, strVal m]).run P w = .ok (.pointer (some o)) w := rfl
theorem length_newRow (cells : List V) (esz : Nat) : (newRow h cells esz).2.length = h.length := Heap.length_push _
theorem length_storeH {a : V} {vs : List V} {h' : Heap} (hs : h.store a vs = some h') : h'.length = h.length := by
 unfold Heap.store at hs
 split at hs
 ·split at hs
  ·split at hs
   ·simp only [Option.bind_eq_some_iff, Option.some.injEq] at hs
    obtain ⟨_, _, rfl⟩ := hs
    exact Heap.length_set _ _ _
   ·cases hs
  ·cases hs
 ·cases hs
theorem length_store {P : Program} {t : TypeId} {a x : V} {h' : Heap} (hs : storeV P h t a x = some h') : h'.length = h.length := by
 simp only [storeV, Option.bind_eq_some_iff] at hs
 obtain ⟨n, _, hs⟩ := hs
 split at hs
 ·exact length_storeH hs
 ·cases hs
theorem length_convert {P : Program} {s d : TypeId} {x v : V} {h' : Heap} (hs : convertV P h s d x = some (v, h')) : h'.length = h.length := by
 unfold convertV at hs
 repeat' split at hs
 all_goals first
  | (simp only [Option.some.injEq, Prod.mk.injEq] at hs; obtain ⟨_, rfl⟩ := hs; first | rfl | exact length_newRow _ _ | exact Heap.length_set _ _ _)
  | cases hs
  | (simp only [Option.bind_eq_some_iff] at hs
     obtain ⟨_, _, _, _, hs⟩ := hs
     split at hs
     ·simp only [Option.some.injEq, Prod.mk.injEq] at hs; obtain ⟨_, rfl⟩ := hs; rfl
     ·cases hs)
theorem length_makeSlice {P : Program} {t : TypeId} {l c v : V} {h' : Heap} (hs : makeSliceV P h t l c = some (v, h')) : h'.length = h.length := by
 unfold makeSliceV at hs
 split at hs
 ·simp only [Option.bind_eq_some_iff] at hs
  obtain ⟨_, _, _, _, _, _, hs⟩ := hs
  split at hs
  ·simp only [Option.some.injEq, Prod.mk.injEq] at hs; obtain ⟨_, rfl⟩ := hs; exact length_newRow _ _
  ·cases hs
 ·cases hs
theorem length_append {P : Program} {t : TypeId} {t2 : Option TypeId} {s x v : V} {h' : Heap} (hs : appendV P h t t2 s x = some (v, h')) : h'.length = h.length := by
 unfold appendV at hs
 split at hs
 ·simp only [Option.bind_eq_some_iff] at hs
  obtain ⟨_, _, _, _, _, _, _, _, _, _, hs⟩ := hs
  repeat' split at hs
  all_goals first
   | (cases hs; done)
   | (simp only [Option.some.injEq, Prod.mk.injEq] at hs; obtain ⟨_, rfl⟩ := hs; first | rfl | exact length_newRow _ _)
   | (simp only [Option.bind_eq_some_iff, Option.some.injEq, Prod.mk.injEq] at hs
      obtain ⟨_, _, _, rfl⟩ := hs
      first | exact length_newRow _ _ | exact Heap.length_set _ _ _)
   | (simp only [Option.bind_some, Option.some.injEq, Prod.mk.injEq] at hs
      obtain ⟨_, rfl⟩ := hs
      exact Heap.length_set _ _ _)
 ·cases hs
theorem length_copy {P : Program} {t : TypeId} {s x v : V} {h' : Heap} (hs : copyV P h t s x = some (v, h')) : h'.length = h.length := by
 unfold copyV at hs
 split at hs
 ·simp only [Option.bind_eq_some_iff] at hs
  obtain ⟨_, _, _, _, _, _, _, _, _, _, hs⟩ := hs
  split at hs
  ·simp only [Option.some.injEq, Prod.mk.injEq] at hs; obtain ⟨_, rfl⟩ := hs; rfl
  ·split at hs
   ·split at hs
    ·split at hs
     ·simp only [Option.bind_eq_some_iff, Option.some.injEq, Prod.mk.injEq] at hs
      obtain ⟨_, _, _, rfl⟩ := hs
      exact Heap.length_set _ _ _
     ·cases hs
    ·cases hs
   ·cases hs
 ·cases hs
theorem length_clear {P : Program} {t : TypeId} {x v : V} {h' : Heap} (hs : clearV P h t x = some (v, h')) : h'.length = h.length := by
 unfold clearV at hs
 split at hs
 ·simp only [Option.bind_eq_some_iff] at hs
  obtain ⟨_, _, _, _, _, _, _, _, hs⟩ := hs
  split at hs
  ·simp only [Option.some.injEq, Prod.mk.injEq] at hs; obtain ⟨_, rfl⟩ := hs; rfl
  ·split at hs
   ·split at hs
    ·split at hs
     ·simp only [Option.some.injEq, Prod.mk.injEq] at hs
      obtain ⟨_, rfl⟩ := hs
      exact Heap.length_set _ _ _
     ·cases hs
    ·cases hs
   ·cases hs
 ·cases hs
theorem length_builtin {P : Program} {b : Builtin} {ts : List TypeId} {args : List V} {v : V} {h' : Heap} (hs : builtinV P h b ts args = some (v, h')) : h'.length = h.length := by
 unfold builtinV at hs
 split at hs
 ·exact length_append hs
 ·exact length_copy hs
 ·simp only [Option.map_eq_some_iff, Prod.mk.injEq] at hs; obtain ⟨_, _, _, rfl⟩ := hs; rfl
 ·simp only [Option.map_eq_some_iff, Prod.mk.injEq] at hs; obtain ⟨_, _, _, rfl⟩ := hs; rfl
 ·exact length_clear hs
 ·simp only [Option.map_eq_some_iff, Prod.mk.injEq] at hs; obtain ⟨_, _, _, rfl⟩ := hs; rfl
 ·simp only [Option.map_eq_some_iff, Prod.mk.injEq] at hs; obtain ⟨_, _, _, rfl⟩ := hs; rfl
 ·cases hs
theorem length_makeMap {r : Option Operand} {v : V} {h' : Heap} (hs : makeMapV h r = some (v, h')) : h'.length = h.length := by
 cases r with
 | none => simp only [makeMapV, Option.some.injEq, Prod.mk.injEq] at hs; obtain ⟨_, rfl⟩ := hs; exact Heap.length_push _
 | some _ => simp [makeMapV] at hs
theorem length_mapPut {P : Program} {t : TypeId} {m k x : V} {h' : Heap} (hs : mapPutV P h t m k x = some h') : h'.length = h.length := by
 unfold mapPutV at hs
 split at hs
 ·split at hs
  ·split at hs
   ·simp only [Option.map_eq_some_iff] at hs
    obtain ⟨_, _, rfl⟩ := hs
    exact Heap.length_set _ _ _
   ·cases hs
  ·cases hs
 ·cases hs
theorem length_range {P : Program} {t : TypeId} {x v : V} {h' : Heap} (hs : rangeV P h t x = some (v, h')) : h'.length = h.length := by
 unfold rangeV at hs
 split at hs
 ·split at hs
  ·simp only [Option.some.injEq, Prod.mk.injEq] at hs; obtain ⟨_, rfl⟩ := hs; exact Heap.length_push _
  ·cases hs
 ·cases hs
theorem length_next {x v : V} {b : Bool} {h' : Heap} (hs : nextV h x b = some (v, h')) : h'.length = h.length := by
 unfold nextV at hs
 split at hs
 ·split at hs
  ·split at hs
   ·split at hs
    ·cases hs
    ·split at hs
     ·simp only [Option.some.injEq, Prod.mk.injEq] at hs; obtain ⟨_, rfl⟩ := hs; rfl
     ·simp only [Option.map_eq_some_iff, Prod.mk.injEq] at hs; obtain ⟨_, _, _, rfl⟩ := hs; exact Heap.length_set _ _ _
     ·cases hs
   ·cases hs
  ·cases hs
 ·cases hs
theorem length_op {E : Env} {ρ : Operand → V} {o : Op} {v : V} {h' : Heap} (hs : opV E ρ h o = some (v, h')) : h'.length = h.length := by
 unfold opV at hs
 split at hs
 all_goals try (first | exact length_convert hs | exact length_makeSlice hs | exact length_makeMap hs | exact length_range hs | exact length_next hs | exact length_builtin hs)
 all_goals repeat' (first | split at hs | (rw [Option.bind_eq_some_iff] at hs; obtain ⟨_, _, hs⟩ := hs))
 all_goals first
  | cases hs; done
  | (simp only [Option.some.injEq, Prod.mk.injEq] at hs; obtain ⟨_, hs⟩ := hs; rw [← hs]; done)
  | (simp only [Option.some.injEq, Prod.mk.injEq] at hs; obtain ⟨_, hs⟩ := hs; rw [← hs]; exact length_newRow _ _)
  | (simp only [Option.map_eq_some_iff, Prod.mk.injEq] at hs
     obtain ⟨_, hv, _, hs⟩ := hs
     subst hs
     first | rfl | exact length_store hv | exact length_mapPut hv)
theorem method_rel {P : Program} (hh : HR ok w B p h) {recv r : V} {name : String} {f : FuncId} {c : Value} (hm : methodV P h recv name = some (f, r)) (hr : VRel ok w B recv c) :
  ∃ t v r', c = .iface t v ∧ (method (P.types.size + Made.depth) t v name).run P w = .ok (f, r') w ∧ VRel ok w B r r' := by
 unfold methodV at hm
 split at hm
 ·rename_i t v
  simp only [VRel] at hr
  obtain ⟨v', rfl, hv⟩ := hr
  simp only [Option.bind_eq_some_iff] at hm
  obtain ⟨i, hi, m, hfind, hm⟩ := hm
  split at hm
  ·rename_i hp
   have hpath : m.path.toList = [] := by simpa using hp
   obtain ⟨k, hk⟩ : ∃ k, P.types.size + Made.depth = k + 1 := ⟨P.types.size + 99, rfl⟩
   rw [hk]
   split at hm
   ·rename_i g ptr hfn
    split at hm
    ·rename_i e hu
     simp only [Option.some.injEq, Prod.mk.injEq] at hm
     obtain ⟨rfl, rfl⟩ := hm
     refine ⟨t, v', v', rfl, ?_, hv⟩
     simp [method, typeInfo, hi, hfind, hpath, follow, hfn, receiverAt, r_under hu, Place.get]
    ·rename_i elem hu
     simp only [Option.bind_eq_some_iff, Option.map_eq_some_iff, Prod.mk.injEq] at hm
     obtain ⟨pv, hpv, x, hx, rfl, rfl⟩ := hm
     have hnc := nilCheck_rel hpv hv
     obtain ⟨c, hrun, hrel⟩ := loadV_rel (P := P) hh hx hnc
     refine ⟨t, v', c, rfl, ?_, hrel⟩
     simp only [Instr.loadAt] at hrun
     cases v' with
     | pointer o =>
      cases o with
      | some o =>
       simp [Instr.sureAddr] at hrun
       have hpe : m.path = #[] := by simpa using hp
       simp [method, typeInfo, hi, hfind, hpath, follow, hfn, receiverAt, r_under hu, Place.get, ssa_run, asAddr, hrun, hpe]
      | none => simp [Instr.sureAddr] at hrun
     | _ => simp [Instr.sureAddr] at hrun
    ·rename_i d hnp hu
     simp only [Option.some.injEq, Prod.mk.injEq] at hm
     obtain ⟨rfl, rfl⟩ := hm
     refine ⟨t, v', v', rfl, ?_, hv⟩
     have hd : ∀ e, d ≠ .pointer e := fun e he => by subst he; exact hnp e rfl
     cases d <;> first | exact absurd rfl (hd _) | simp [method, typeInfo, hi, hfind, hpath, follow, hfn, receiverAt, r_under hu, Place.get]
    ·cases hm
   ·cases hm
  ·cases hm
 ·cases hm
theorem FW.enter {F : Fence} (hF : FW F) {P : Program} {o : Oper} {a : Act} {next : Act → World → Prop} {Q : Exit → Act → World → Prop} {w w1 : World} {f : FuncId} {args : Array Value}
  (hd : ∀ c, o.op ≠ .defer c) (hrun : (execOp a.eval o).run P w = .ok (.enter f args) w1)
  (hc : CallsIn Fence.wide 0 P f args w1 fun | .returned v, w'' => next (a.put o.dst v) w'' | .panicked chain, w'' => Q (.panic chain) a w'' | .outgrown, _ => LetsOut Q) :
  o.wpIn F 0 P a w next Q := by
 refine ⟨fun f _ => hF.fn f, ?_⟩
 rw [Oper.semAt_eq _ _ _ hd, hrun, Oper.uponIn_enter]
 exact ⟨hF.depth, hF.calls hc⟩
def Enters (E : Env) (f : FuncId) : Prop := ∃ fn c, E.P.funcs[f]? = some fn ∧ fn.body = some c ∧ fn.name ≠ "runtime.NumGoroutine"
def KnownIn (E : Env) : Prop := ∀ f F, E.known f = some F → Enters E f
theorem call_enters {E : Env} {rec : Rec} (hE : FnOk E p) (hK : KnownIn E) {f : FuncId} {args : List V} {r : V} {h' : Heap} (hc : callV E rec f args h = some (r, h')) : Enters E f := by
 have body : ∀ {args h x}, bodyV E rec f args h = some x → Enters E f := by
  intro args h x hb
  unfold bodyV at hb
  split at hb
  ·rename_i hf
   split at hb
   ·cases hb
   ·rename_i fn h1
    split at hb
    ·cases hb
    ·rename_i c h2
     exact ⟨fn, c, h1, h2, (hE.good f fn c hf h1 h2).2⟩
  ·cases hb
 unfold callV at hc
 split at hc
 ·rename_i F hF; exact hK f F hF
 ·split at hc
  ·simp only [Option.bind_eq_some_iff, Option.map_eq_some_iff, pureV] at hc
   obtain ⟨_, _, _, ⟨_, hb, _⟩, _⟩ := hc
   exact body hb
  ·simp only [Option.bind_eq_some_iff] at hc
   obtain ⟨_, _, _, hb, _⟩ := hc
   exact body hb
  ·simp only [Option.bind_eq_some_iff] at hc
   obtain ⟨_, hb, _⟩ := hc
   exact body hb
  ·simp only [Option.bind_eq_some_iff] at hc
   obtain ⟨_, hb, _⟩ := hc
   exact body hb
  ·exact body hc
theorem Enters.run {E : Env} {f : FuncId} (h : Enters E f) (args : Array Value) (w : World) : (callFunc f args).run E.P w = .ok (.enter f args) w := by
 obtain ⟨fn, c, h1, h2, hn⟩ := h
 simp [callFunc, h1, h2, hn]
theorem oper_sound {E : Env} {rec : Rec} {m : Nat} (hS : Sound E.P p rec m) (hq : EqOk E) (hE : FnOk E p) (hK : KnownOk E p) (hKI : KnownIn E) {F : Fence} (hF : FW F) {o : Oper} {tmps : List V} {a : Act} {v : V} {h' : Heap}
  (hop : operV E rec tmps h o.op = some (v, h')) (hh : HR ok w B p h) (ht : VRelL ok w B tmps a.tmps.toList) {next : Act → World → Prop} {Q : Exit → Act → World → Prop}
  (hR : ∀ ok' B' w' v', After p ok B w h.length h' v ok' B' w' v' → next (a.put o.dst v') w') : o.wpIn F 0 E.P a w next Q := by
 have hρ : ∀ x, VRel ok w B (evalT tmps x) (a.eval x) := fun x => evalT_rel ht x
 unfold operV at hop
 split at hop
 ·-- a function value
  rename_i op f args ts heq
  have hd : ∀ c, o.op ≠ .defer c := fun c e => by rw [heq] at e; cases e
  have hargs : VRelL ok w B (args.toList.map (evalT tmps)) (args.map a.eval).toList := by rw [Array.toList_map]; exact mapRel hρ _
  unfold applyV at hop
  split at hop
  ·rename_i fv g first captured hfe
   have hf := hρ f
   rw [hfe] at hf
   simp only [VRel] at hf
   obtain ⟨a', b', hfv, h1, h2⟩ := hf
   have hall : VRelL ok w B (first ++ args.toList.map (evalT tmps) ++ captured) (a' ++ (args.map a.eval).toList ++ b') := (h1.append hargs).append h2
   refine hF.enter hd (w1 := w) (f := g) (args := (a' ++ (args.map a.eval).toList ++ b').toArray) ?_ (call_sound hS hE hK hop ok B w _ _ hh hall fun ok' B' w' v' hA => hR ok' B' w' v' hA)
   have := (call_enters hE hKI hop).run (a' ++ (args.map a.eval).toList ++ b').toArray w
   simp only [execOp, heq, resolve, hfv, Deferred.ofValue, invoke, Sem.run_bind, Sem.run_pure, Result.andThen_ok]
   rw [← this]
   congr 2
   apply Array.ext'
   simp
  ·rename_i fv d j hfe
   have hf := hρ f
   rw [hfe] at hf
   obtain ⟨l, L, hfv, hL, hsz, hrd⟩ := round_sound hS hop hh hf hargs
   refine ⟨fun f _ => hF.fn f, ?_⟩
   have hargs' : (args.map a.eval).toList.toArray = args.map a.eval := Array.toArray_toList
   rw [hargs'] at hsz hrd
   have hrun : (execOp a.eval o).run E.P w = .ok (.round l L.fn ((L.params.zip (args.map a.eval)).foldl (fun tmps (t, a) => tmps.setIfInBounds t a) L.tmps) L.assign L.body) w := by
    have := run_yield (P := E.P) hL hsz
    simp only [execOp, heq, resolve, hfv, Deferred.ofValue, invoke, Sem.run_bind, Sem.run_pure, Result.andThen_ok]
    rw [← this]
    congr 2
    apply Array.ext'
    simp
   rw [Oper.semAt_eq _ _ _ hd, hrun, Oper.uponIn_round]
   exact ⟨hF.depth, hrd F _ hF fun ok' B' w' v' hA => hR ok' B' w' v' hA⟩
  ·cases hop
 ·-- a method
  rename_i op recv name args ts heq
  have hd : ∀ c, o.op ≠ .defer c := fun c e => by rw [heq] at e; cases e
  have hargs : VRelL ok w B (args.toList.map (evalT tmps)) (args.map a.eval).toList := by rw [Array.toList_map]; exact mapRel hρ _
  simp only [Option.bind_eq_some_iff] at hop
  obtain ⟨⟨f, r⟩, hm, hop⟩ := hop
  dsimp only at hop
  obtain ⟨t, x, r', hrecv, hrun, hrr⟩ := method_rel hh hm (hρ recv)
  have hall : VRelL ok w B (r :: args.toList.map (evalT tmps)) (r' :: (args.map a.eval).toList) := by simp only [VRelL]; exact ⟨_, _, rfl, hrr, hargs⟩
  refine hF.enter hd (w1 := w) (f := f) (args := (r' :: (args.map a.eval).toList).toArray) ?_ (call_sound hS hE hK hop ok B w _ _ hh hall fun ok' B' w' v' hA => hR ok' B' w' v' hA)
  have hent := (call_enters hE hKI hop).run (r' :: (args.map a.eval).toList).toArray w
  have h0 : (#[a.eval recv] ++ args.map a.eval)[0]? = some (.iface t x) := by rw [hrecv, ← Array.getElem?_toList, Array.toList_append]; rfl
  have h1 : (#[a.eval recv] ++ args.map a.eval).extract 1 (#[a.eval recv] ++ args.map a.eval).size = args.map a.eval := by
   apply Array.ext'
   simp [List.extract_eq_take_drop]
   rw [List.take_of_length_le (by simp)]
  have h2 : #[r'] ++ args.map a.eval = (r' :: (args.map a.eval).toList).toArray := by apply Array.ext'; simp
  simp only [execOp, heq, resolve, invoke, Sem.run_bind, Sem.run_pure, Result.andThen_ok, h0, h1, callMethod, run_program, hrun, h2, hent]
 ·-- the rest
  rename_i op hnv hni
  obtain ⟨n, c, w', B', hrun, hg, hx, hh', hv⟩ := op_rel hq hh hρ hop
  have hd : ∀ c, o.op ≠ .defer c := fun c e => by rw [e] at hop; simp [opV] at hop
  have hlen : h'.length = h.length := length_op hop
  refine ⟨fun f _ => hF.fn f, ?_⟩
  rw [Oper.semAt_eq _ _ _ hd, hrun]
  have hA : After p ok B w h.length h' v ok B' w' c := ⟨hx, hh', hv, hlen⟩
  rcases hg with rfl | ⟨rfl, rfl⟩
  ·exact hR ok B' w' c hA
  ·exact hR ok B' w' _ hA
end
end Go.Sim
end
section
namespace Go.Sim
open Go
set_option linter.unusedSectionVars false
section
variable {ok ok2 ok' : Nat → Nat → Prop} {w w' : World} {B B' : Bd} {p : Array Oper → Bool} {h : Heap}
theorem put_rel {tmps : List V} {a : Act} {v : V} {c : Value} (ht : VRelL ok w B tmps a.tmps.toList) (dst : Option Tmp) (hv : VRel ok w B v c) : VRelL ok w B (putT tmps dst v) (a.put dst c).tmps.toList := by
 cases dst with
 | none => exact ht
 | some d =>
  simp only [putT, Act.put, Array.toList_setIfInBounds]
  exact ht.set d hv
theorem put_defers (a : Act) (dst : Option Tmp) (c : Value) : (a.put dst c).defers = a.defers := by cases dst <;> rfl
theorem VRel.not_bool {v : V} {c : Value} (hr : VRel ok w B v c) (hp : v ≠ .poison) (hb : ∀ b, v ≠ .bool b) : ∀ b, c ≠ .bool b := by
 intro b hc
 subst hc
 cases v with
 | bool b' => exact hb _ rfl
 | poison => exact hp rfl
 | pref d j o e => obtain ⟨_, h⟩ := VRel.pshape hr; cases h
 | sref d j o l e f => obtain ⟨_, _, h, _⟩ := VRel.sshape hr; cases h
 | yield d j => rcases VRel.yshape hr with ⟨_, h⟩ | ⟨_, h⟩ <;> cases h
 | pcon cs o => simp only [VRel] at hr; obtain ⟨_, _, h, _⟩ := hr; cases h
 | scon cs o l f => simp only [VRel] at hr; rcases hr with ⟨_, _, _, _, h, _⟩ | ⟨_, h⟩ <;> cases h
 | func fn a b => simp only [VRel] at hr; obtain ⟨_, _, h, _⟩ := hr; cases h
 | iface t x => simp only [VRel] at hr; obtain ⟨_, h, _⟩ := hr; cases h
 | agg cs => simp only [VRel] at hr; obtain ⟨_, h, _⟩ := hr; cases h
 | tuple cs => simp only [VRel] at hr; obtain ⟨_, h, _⟩ := hr; cases h
 | mref d j => obtain ⟨_, h⟩ := VRel.mshape hr; cases h
 | _ => simp only [VRel] at hr; cases hr
theorem wanted_rel {ops : Array Oper} {tmps : List V} {l : Array Value} {o : Oper} {b : Bool} (hw : wantedV ops tmps o = some b) (ht : VRelL ok w B tmps l.toList) : Region.wanted o (yielded ops l) = b := by
 unfold wantedV at hw
 unfold Region.wanted
 split at hw
 ·rename_i hg
  simp only [Option.some.injEq] at hw; subst hw
  simp [hg]
 ·rename_i j want hg
  simp only [hg]
  unfold yielded
  have hlen := ht.length
  split at hw
  ·rename_i b0 hb
   simp only [Option.some.injEq] at hw; subst hw
   simp only [Option.bind_eq_some_iff] at hb
   obtain ⟨d, hd, hb⟩ := hb
   obtain ⟨c, hc, hr⟩ := ht.get hb
   simp only [VRel] at hr; subst hr
   have : l[d]? = some (.bool b0) := by rw [← Array.getElem?_toList]; exact hc
   have h0 : ((ops[j]?).bind (·.dst)).bind (l[·]?) = some (.bool b0) := by
    obtain ⟨o', ho', hd'⟩ := hd
    simp [ho', hd', this]
   rw [h0]
   cases b0 <;> cases want <;> rfl
  ·cases hw
  ·rename_i x hx1 hx2
   simp only [Option.some.injEq] at hw; subst hw
   have h0 : ∀ b0, ((ops[j]?).bind (·.dst)).bind (l[·]?) ≠ some (.bool b0) := by
    intro b0 hb0
    obtain ⟨d, hd, hl⟩ := Option.bind_eq_some_iff.1 hb0
    have hl' : l.toList[d]? = some (.bool b0) := by rw [Array.getElem?_toList]; exact hl
    have hdl : d < tmps.length := by
     rcases Nat.lt_or_ge d tmps.length with h | h
     ·exact h
     ·rw [List.getElem?_eq_none (by omega)] at hl'; cases hl'
    obtain ⟨c, hc, hr⟩ := ht.get (List.getElem?_eq_getElem hdl)
    rw [hl'] at hc
    simp only [Option.some.injEq] at hc; subst hc
    have hv : ((ops[j]?).bind (·.dst)).bind (tmps[·]?) = some tmps[d] := by
     rw [hd]; simp [List.getElem?_eq_getElem hdl]
    have hnp : tmps[d] ≠ .poison := fun e => hx2 (by rw [hv, e])
    have hnb : ∀ b, tmps[d] ≠ .bool b := fun b e => hx1 b (by rw [hv, e])
    exact VRel.not_bool hr hnp hnb b0 rfl
   split
   ·rename_i b0 hb0; exact absurd hb0 (h0 b0)
   ·rfl
theorem ops_sound {E : Env} {rec : Rec} {m : Nat} (hS : Sound E.P p rec m) (hq : EqOk E) (hE : FnOk E p) (hK : KnownOk E p) (hKI : KnownIn E) {F : Fence} (hF : FW F) {ops : Array Oper} :
  ∀ (l : List Oper) (i : Nat) (s s' : St) (base : Base) (ok : Nat → Nat → Prop) (B : Bd) (w : World) (a : Act) (Q : Exit → Act → World → Prop), ops.toList.drop i = l → opsV E rec ops l s = some s' → SR p base s ok B w a →
   (∀ ok' B' w' a', Ext ok B w ok' B' w' → SR p base s' ok' B' w' a' → s'.heap.length = s.heap.length → Q .normal a' w') →
   wpOpsIn F 0 E.P ops Q (List.range' i l.length) a w
 | [], i, s, s', base, ok, B, w, a, Q, hl, he, hs, hQ => by
  simp only [opsV, Option.some.injEq] at he; subst he
  simp only [List.length_nil, List.range'_zero, wpOpsIn]
  exact hQ ok B w a (Ext.refl ok B w) hs rfl
 | o :: r, i, s, s', base, ok, B, w, a, Q, hl, he, hs, hQ => by
  have hi : ops[i]? = some o := by
   have : (ops.toList.drop i)[0]? = some o := by rw [hl]; rfl
   rw [List.getElem?_drop, Nat.add_zero, Array.getElem?_toList] at this
   exact this
  have hr : ops.toList.drop (i + 1) = r := by
   have : (ops.toList.drop i).drop 1 = r := by rw [hl]; rfl
   rwa [List.drop_drop] at this
  simp only [opsV, Option.bind_eq_some_iff] at he
  obtain ⟨b, hb, he⟩ := he
  have hw := wanted_rel (l := a.tmps) hb hs.tmps
  simp only [List.length_cons, List.range'_succ, wpOpsIn, hi, hw]
  cases b with
  | true =>
   simp only [if_true, Option.bind_eq_some_iff] at he ⊢
   obtain ⟨⟨v, h'⟩, hop, he⟩ := he
   refine oper_sound hS hq hE hK hKI hF hop hs.heap hs.tmps ?_
   intro ok' B' w' v' hA
   have hs' : SR p base { s with tmps := putT s.tmps o.dst v, heap := h' } ok' B' w' (a.put o.dst v') :=
    ⟨hA.heap, put_rel (hA.ext.vrelL hs.heap hs.tmps) o.dst hA.val, by rw [put_defers]; exact Marks.ext hs.marks hA.ext⟩
   refine ops_sound hS hq hE hK hKI hF r (i + 1) _ s' base ok' B' w' _ Q hr he hs' fun ok2 B2 w2 a2 hx2 hs2 hl2 => ?_
   exact hQ ok2 B2 w2 a2 (hA.ext.trans hx2) hs2 (hl2.trans hA.len)
  | false =>
   simp only [Bool.false_eq_true, if_false] at he ⊢
   refine ⟨fun f _ => hF.fn f, ?_⟩
   have hs' : SR p base { s with tmps := putT s.tmps o.dst V.undef } ok B w (a.put o.dst undef) :=
    ⟨hs.heap, put_rel hs.tmps o.dst (by simp only [V.undef, VRel]; exact ⟨[], rfl, rfl⟩), by rw [put_defers]; exact hs.marks⟩
   exact ops_sound hS hq hE hK hKI hF r (i + 1) _ s' base ok B w _ Q hr he hs' hQ
def DrawOk (E : Env) (p : Array Oper → Bool) (rec : Rec) : Prop := ∀ id ops s s', regOkD E ops s'.tmps = true → opsV E rec ops ops.toList s = some s' →
 ∀ F base ok B w a Q, FW F → SR p base s ok B w a →
  (∀ ok' B' w' a', Ext ok B w ok' B' w' → SR p base s' ok' B' w' a' → s'.heap.length = s.heap.length → Q .normal a' w') → (Code.region id ops true).wpIn F 0 E.P Q a w
theorem good_label : ∀ (c : Code) (l : Nat) (rest : Code), goodCode p c = true → findLabel c l = some rest → goodCode p rest = true
 | .seq a b, l, rest, hg, hf => by
  simp only [goodCode, Bool.and_eq_true] at hg
  simp only [findLabel] at hf
  split at hf
  ·rename_i r hr
   simp only [Option.some.injEq] at hf; subst hf
   simp only [goodCode, Bool.and_eq_true]
   exact ⟨good_label a l r hg.1 hr, hg.2⟩
  ·exact good_label b l rest hg.2 hf
 | .label l', l, rest, hg, hf => by
  simp only [findLabel] at hf
  split at hf
  ·simp only [Option.some.injEq] at hf; subst hf; rfl
  ·cases hf
 | .skip, _, _, _, hf | .region _ _ _, _, _, _, hf | .cond _ _ _, _, _, _, hf | .block _ _, _, _, _, hf | .loop _, _, _, _, hf | .exit _, _, _, _, hf | .scope _, _, _, _, hf | .goto _, _, _, _, hf | .ret, _, _, _, hf
 | .refuse _, _, _, _, hf | .rangeFunc _ _ _ _, _, _, _, hf => by simp [findLabel] at hf
theorem forgets_rel : ∀ (hs : List Hint) (s : St) {l : List Value}, VRelL ok w B s.tmps l → VRelL ok w B (forgets hs s).tmps l ∧ (forgets hs s).heap = s.heap
 | [], s, l, h => ⟨h, rfl⟩
 | .forget i :: r, s, l, h => by
  have := forgets_rel r { s with tmps := s.tmps.set i .poison } (l := l) (h.set_of _ _ fun _ _ => by simp only [VRel])
  exact this
 | .canon i :: r, s, l, h => forgets_rel r s h
 | .promote i e :: r, s, l, h => forgets_rel r s h
 | .promoteBox i o e :: r, s, l, h => forgets_rel r s h
 | .promoteAll i o e :: r, s, l, h => forgets_rel r s h
 | .loose i :: r, s, l, h => forgets_rel r s h
 | .fork i :: r, s, l, h => forgets_rel r s h
theorem hints_rel : ∀ {hs : List Hint} {s s' : St} {ok : Nat → Nat → Prop} {B : Bd}, hintsV hs s = some s' → HR ok w B p s.heap → ∀ {l : List Value}, VRelL ok w B s.tmps l →
  ∃ ok' B', Ext ok B w ok' B' w ∧ HR ok' w B' p s'.heap ∧ VRelL ok' w B' s'.tmps l ∧ s'.heap.length = s.heap.length
 | [], s, s', ok, B, he, hh, l, ht => by
  simp only [hintsV, Option.some.injEq] at he; subst he
  exact ⟨ok, B, Ext.refl ok B w, hh, ht, rfl⟩
 | x :: r, s, s', ok, B, he, hh, l, ht => by
  simp only [hintsV, Option.bind_eq_some_iff] at he
  obtain ⟨s1, h1, h2⟩ := he
  obtain ⟨ok1, B1, e1, e2, e3, e4, _⟩ := hint_rel h1 hh ht
  obtain ⟨ok2, B2, f1, f2, f3, f4⟩ := hints_rel h2 e2 e3
  exact ⟨ok2, B2, e1.trans f1, f2, f3, f4.trans e4⟩
theorem forgets_heap (hs : List Hint) (s : St) : (forgets hs s).heap = s.heap := by
 induction hs generalizing s with
 | nil => rfl
 | cons x r ih => cases x <;> simp [forgets, ih]
theorem SoundC.sub {P : Program} {c c' : Code} {s s1 s' : St} {e e1 : Exit} {F : Fence} {base : Base} {a : Act} {Q Q1 : Exit → Act → World → Prop} (hc : SoundC P p c s e s' F base ok B w a Q)
  (hg : goodCode p c' = true) (hn : noRange c = true → noRange c' = true)
  (hp : ∀ ok' B' w' a', Ext ok B w ok' B' w' → SR p base s1 ok' B' w' a' → s1.heap.length = s.heap.length → Q1 e1 a' w') : SoundC P p c' s e1 s1 F base ok B w a Q1 :=
 ⟨hg, hc.fence, fun h => hn (hc.rounds h), hc.st, hc.base_le, hp⟩
section
variable {E : Env} {rec : Rec} {m : Nat} (hS : Sound E.P p rec m) (hq : EqOk E) (hE : FnOk E p) (hK : KnownOk E p) (hKI : KnownIn E) (hD : DrawOk E p rec)
include hS hq hE hK hKI hD
theorem loop_step {body : Code} {s s' : St} {e : Exit} (he : evStep E rec (.loop body) s = some (e, s')) {F : Fence} {base : Base} {a : Act} {Q : Exit → Act → World → Prop}
  (hc : SoundC E.P p (.loop body) s e s' F base ok B w a Q) : Code.roundsIn F 0 E.P body Q (m + 1) a w := by
 simp only [evStep, Option.bind_eq_some_iff] at he
 obtain ⟨s0, hh0, he⟩ := he
 obtain ⟨ok0, B0, hx0, hhr0, ht0, hl0⟩ := hints_rel hh0 hc.st.heap hc.st.tmps
 have hst0 : SR p base s0 ok0 B0 w a := ⟨hhr0, ht0, Marks.ext hc.st.marks hx0⟩
 rw [roundsIn_succ]
 have hgood : goodCode p body = true := by have := hc.good; simpa [goodCode] using this
 have hnr : (F.round ≠ none ∨ base.shut = true) → noRange body = true := fun h => by have := hc.rounds h; simpa [noRange] using this
 split at he
 ·rename_i s1 hrec
  refine hS.code body s0 .normal s1 hrec F base ok0 B0 w a _ ⟨hgood, hc.fence, hnr, hst0, hc.base_le, ?_⟩
  intro ok1 B1 w1 a1 hx1 hs1 hl1
  simp only [Exit.then]
  have hfh := forgets_heap (E.hint s.fn ((firstRegion body).getD 0)) s1
  have hft := (forgets_rel (E.hint s.fn ((firstRegion body).getD 0)) s1 hs1.tmps).1
  have hh1 : HR ok1 w1 B1 p (forgets (E.hint s.fn ((firstRegion body).getD 0)) s1).heap := by rw [hfh]; exact hs1.heap
  obtain ⟨t1, t2, t3⟩ := trim_rel hh1 hft s0.heap.top.length
  have hxc := (hx1.cutK (k := s0.heap.top.length) (g := (forgets (E.hint s.fn ((firstRegion body).getD 0)) s1).heap.keeps) fun j hj => hhr0.top_lt hj)
  have hst2 : SR p base ((forgets (E.hint s.fn ((firstRegion body).getD 0)) s1).trim s0.heap.top.length) _ _ w1 a1 := ⟨t1, t2, Marks.cut hs1.marks _⟩
  refine hS.loop body _ e s' he F base _ _ w1 a1 Q ⟨hc.good, hc.fence, hc.rounds, hst2, Nat.le_trans hc.base_le hxc.size, ?_⟩
  intro ok2 B2 w2 a2 hx2 hs2 hl2
  refine hc.post ok2 B2 w2 a2 ((hx0.trans hxc).trans hx2) hs2 ?_
  rw [hl2, t3, hfh, hl1, hl0]
 ·rename_i hne
  refine hS.code body s0 e s' he F base ok0 B0 w a _ ⟨hgood, hc.fence, hnr, hst0, hc.base_le, ?_⟩
  intro ok1 B1 w1 a1 hx1 hs1 hl1
  have hq' : Q e a1 w1 := hc.post ok1 B1 w1 a1 (hx0.trans hx1) hs1 (hl1.trans hl0)
  cases e with
  | normal => exact (hne s' he).elim
  | _ => exact hq'
theorem range_step {g : Operand} {ps : Array Tmp} {assign body : Code} {s s' : St} {e : Exit} (he : evStep E rec (.rangeFunc g ps assign body) s = some (e, s')) {F : Fence} {base : Base} {a : Act} {Q : Exit → Act → World → Prop}
  (hc : SoundC E.P p (.rangeFunc g ps assign body) s e s' F base ok B w a Q) : (Code.rangeFunc g ps assign body).wpIn F 0 E.P Q a w := by
 have hFw : F = Fence.wide := by
  rcases hc.fence with h | ⟨l, rfl⟩
  ·exact h
  ·have := hc.rounds (.inl (by simp [Fence.inRound])); simp [noRange] at this
 subst hFw
 have hshut : base.shut = true → False := fun h => by have := hc.rounds (.inr h); simp [noRange] at this
 simp only [evStep, Option.bind_eq_some_iff] at he
 obtain ⟨s0, hh0, ⟨r, h2⟩, hcall, he⟩ := he
 dsimp only at he
 obtain ⟨ok0, B0, hx0, hhr0, ht0, hl0⟩ := hints_rel hh0 hc.st.heap hc.st.tmps
 have hm0 := Marks.ext hc.st.marks hx0
 have hgood := hc.good
 simp only [goodCode, Bool.and_eq_true] at hgood
 obtain ⟨⟨⟨g1, g2⟩, g3⟩, g4⟩ := hgood
 split at hcall
 ·rename_i f first captured hfe
  refine wpIn_rangeFunc fun fn _ => ?_
  -- the two blocks
  have hxA := Ext.allocNone hhr0 (.deferred (some []))
  have hhA := hhr0.allocNone (.deferred (some []))
  let L : Loop := { state := .ready, pending := none, fn, tmps := a.tmps, params := ps, assign, body, defers := w.heap.size }
  obtain ⟨hxL, hhL⟩ := push_blk hhA (.loop s0.fn s0.tmps ps.toList assign body true none) (.loop (w.heap.size + 1)) (.loop L) (fun b hb => by simp only [Ent.blk, Option.some.injEq] at hb; rw [← hb]; simp)
   ⟨_, _, _, _, _, _, _, L, rfl, by have := heap_push_new (w.alloc (.deferred (some []))) (.loop L); simpa using this, rfl, rfl, rfl, by
    rw [Bd.from_zero]
    have h1 := hxA.vrelL hhr0 ht0
    have hxP : Ext ok0 B0 (w.alloc (.deferred (some []))) ok0 (B0.put 0 s0.heap.top.length (.loop (w.heap.size + 1))) ((w.alloc (.deferred (some []))).alloc (.loop L)) :=
     Ext.alloc hhA 0 _ _ hhA.top_out (fun b hb => by simp only [Ent.blk, Option.some.injEq] at hb; rw [← hb]; simp) _
    exact hxP.vrelL hhA h1, ⟨g1, g3⟩, ⟨g2, g4⟩, .inl ⟨rfl, rfl, rfl, rfl⟩⟩
  have hxAL := hxA.trans hxL
  have hev := evalT_rel (hxAL.vrelL hhr0 ht0) g
  rw [hfe] at hev
  simp only [VRel] at hev
  obtain ⟨a', b', hfv, r1, r2⟩ := hev
  have hy : VRel ok0 ((w.alloc (.deferred (some []))).alloc (.loop L)) (B0.put 0 s0.heap.top.length (.loop (w.heap.size + 1))) (.yield 0 s0.heap.top.length) (.func (.yield (w.heap.size + 1)) #[] #[]) := by
   simp only [VRel, Bd.put_same]
  have hargs : VRelL ok0 ((w.alloc (.deferred (some []))).alloc (.loop L)) (B0.put 0 s0.heap.top.length (.loop (w.heap.size + 1))) (first ++ [.yield 0 s0.heap.top.length] ++ captured) (a' ++ [Value.func (.yield (w.heap.size + 1)) #[] #[]] ++ b') :=
   (r1.append (by simp only [VRelL]; exact ⟨_, _, rfl, hy, rfl⟩)).append r2
  have hent := (call_enters hE hKI hcall).run (a' ++ [Value.func (.yield (w.heap.size + 1)) #[] #[]] ++ b').toArray ((w.alloc (.deferred (some []))).alloc (.loop L))
  have hwr : w.heap.size < w.heap.size + 1 := Nat.lt_succ_self _
  refine ⟨w.heap.size + 1, [{ target := .collected w.heap.size, args := #[] }], (w.alloc (.deferred (some []))).alloc (.loop L), { target := .fn (.func f) b'.toArray, args := a'.toArray ++ #[Value.func (.yield (w.heap.size + 1)) #[] #[]] },
   (w.alloc (.deferred (some []))).alloc (.loop L), f, (a' ++ [Value.func (.yield (w.heap.size + 1)) #[] #[]] ++ b').toArray, (w.alloc (.deferred (some []))).alloc (.loop L), run_enterLoop_outer fn a.tmps ps assign body, ?_, fun _ _ => trivial, ?_, by simp [Fence.wide], ?_⟩
  ·have hg' : a.eval g = .func (.func f) a'.toArray b'.toArray := hfv
   have h0 : resolve a.eval (rangeCall g (w.heap.size + 1)) 0 = Deferred.ofValue (a.eval g) #[Value.func (.yield (w.heap.size + 1)) #[] #[]] := by
    simp only [resolve, rangeCall]
    congr 1
    simp [Act.eval]
   rw [h0, hg']
   rfl
  ·simp only [invoke]
   rw [← hent]
   congr 2
   apply Array.ext'
   simp
  ·refine call_sound hS hE hK hcall ok0 _ _ _ _ hhL hargs ?_
   intro ok' B' w' v' hA
   have hxT := (hx0.trans hxAL).trans hA.ext
   -- the loop's record behind the call
   split at he
   ·rename_i fn2 tmps2 ps2 a2 b2 ready pj hg2
    split at he
    ·rename_i hrp
     have hB' : B' 0 s0.heap.top.length = .loop (w.heap.size + 1) := by
      have hen := hA.ext.ent 0 s0.heap.top.length
      rw [Bd.put_same] at hen
      rcases hen with hen | hen
      ·have := hA.heap.blk 0 s0.heap.top.length
       rw [hen, hg2] at this; simp [BlkR] at this
      ·exact hen
     obtain ⟨l2, L2, q1, q2, q3⟩ := hA.heap.loop hg2 (by rw [hB']; simp)
     rw [hB'] at q1
     simp only [Ent.loop.injEq] at q1; subst q1
     obtain ⟨_, _, _, _, _, _, q7⟩ := q3
     have hst : L2.state ≠ .busy ∧ L2.pending = pj ∧ ∀ c, pj = some c → goodCode p c = true := by
      rcases q7 with ⟨_, k2, k3, k4⟩ | ⟨k1, k2, k3⟩ | ⟨c, k1, k2, k3, k4, k5⟩
      ·exact ⟨by rw [k3]; simp, by rw [k4, k2], by rw [k2]; simp⟩
      ·subst k1 k2; simp at hrp
      ·exact ⟨by rw [k3]; simp, by rw [k4, k2], by rw [k2]; rintro c' hc'; simp only [Option.some.injEq] at hc'; subst hc'; exact k5⟩
     -- the level is cut
     have ht2 : VRelL ok' w' B' s0.tmps a.tmps.toList := (hxAL.trans hA.ext).vrelL hhr0 ht0
     obtain ⟨t1, t2, t3⟩ := trim_rel (s := { s0 with heap := h2 }) hA.heap ht2 s0.heap.top.length
     have hxc : Ext ok B w (CutK ok' B' s0.heap.top.length h2.keeps) (B'.cutK s0.heap.top.length h2.keeps) w' := by
      have h1 : Ext ok0 B0 w (CutK ok' B' s0.heap.top.length h2.keeps) (B'.cutK s0.heap.top.length h2.keeps) w' := ((hxAL.trans hA.ext).cutK (k := s0.heap.top.length) fun j hj => hhr0.top_lt hj)
      exact hx0.trans h1
     have hlu : ∀ d j, (B'.cutK s0.heap.top.length h2.keeps d j).blk ≠ some (w.heap.size + 1) := by
      intro d j hb
      obtain ⟨e1, e2⟩ := hA.heap.inj d j 0 s0.heap.top.length _ (Bd.cutK_blk hb) (by rw [hB']; rfl)
      subst e1 e2
      have hb2 := Bd.cutK_loop (B := B') (k := s0.heap.top.length) (g := h2.keeps) (l := w.heap.size + 1)
      apply hb2
      revert hb
      cases h2.keeps with
      | false => intro hb; rw [Bd.cutK_false] at hb; unfold Bd.cut at hb; rw [if_pos ⟨rfl, Nat.le_refl _⟩] at hb; simp [Ent.blk] at hb
      | true => intro hb; simp [Bd.cutK, hB', Ent.blk] at hb
     have hlo : ∀ n, ¬ CutK ok' B' s0.heap.top.length h2.keeps (w.heap.size + 1) n := by
      intro n hc; rcases CutK_cases hc with h | ⟨j, ep, esz, _, h⟩
      ·have := (hA.heap.okn _ _ h).2 0 s0.heap.top.length (by rw [hB']; rfl)
       rw [hB'] at this; exact this
      ·obtain ⟨_, e2⟩ := hA.heap.inj 0 j 0 s0.heap.top.length (w.heap.size + 1) (by rw [h]; rfl) (by rw [hB']; rfl)
       subst e2
       rw [hB'] at h; cases h
     have k1 : ∀ b n, CutK ok' B' s0.heap.top.length h2.keeps b n → (w'.putObj (w.heap.size + 1) (.loop { L2 with state := .exhausted })).heap[b]? = w'.heap[b]? :=
      fun b n hb => World.putObj_heap_other fun e => hlo n (e ▸ hb)
     have k2 : ∀ d j b, (B'.cutK s0.heap.top.length h2.keeps d j).blk = some b → (w'.putObj (w.heap.size + 1) (.loop { L2 with state := .exhausted })).heap[b]? = w'.heap[b]? :=
      fun d j b hb => World.putObj_heap_other fun e => hlu d j (e ▸ hb)
     have hxF := hxc.putObj (r := w.heap.size + 1) (o := .loop { L2 with state := .exhausted }) (by omega) hlu
     have hhF := t1.world (w' := w'.putObj (w.heap.size + 1) (.loop { L2 with state := .exhausted })) (by rw [World.putObj_size]; exact Nat.le_refl _) k1 k2
     have htF := t2.world k1 k2
     -- the mark
     have hmF : Marks base (CutK ok' B' s0.heap.top.length h2.keeps) (B'.cutK s0.heap.top.length h2.keeps) (w'.putObj (w.heap.size + 1) (.loop { L2 with state := .exhausted })) ([{ target := .collected w.heap.size, args := #[] }] ++ a.defers) := by
      obtain ⟨rs, m1, m2, mr, _, m3⟩ := Marks.ext_bound hc.st.marks hxF
      have hne : ∀ r ∈ lefts rs, r < w.heap.size := fun r hr => (m3 r hr).1
      have hnew : ∀ d j, (B0 d j).blk ≠ some w.heap.size := fun d j hb => by have := hhr0.lt d j _ hb; omega
      have hput : ∀ d j, ((B0.put 0 s0.heap.top.length (.loop (w.heap.size + 1))) d j).blk ≠ some w.heap.size := by
       intro d j hb
       by_cases hq' : d = 0 ∧ j = s0.heap.top.length
       ·obtain ⟨rfl, rfl⟩ := hq'
        rw [Bd.put_same] at hb
        simp [Ent.blk] at hb
       ·rw [Bd.put_other B0 _ hq'] at hb; exact hnew d j hb
      have hAL : ((w.alloc (.deferred (some []))).alloc (.loop L)).heap[w.heap.size]? = some (.deferred (some [])) := by
       rw [heap_push_lt _ _ (by simp), heap_push_new]
      have hB'n : ∀ d j, (B' d j).blk ≠ some w.heap.size := fun d j hb => hput d j (hA.ext.new d j _ hb (by simp; omega))
      have hok'n : ∀ n, ¬ ok' w.heap.size n := fun n h => by
       rcases hA.ext.okOf w.heap.size n (by simp; omega) h with h | ⟨d, j, h⟩
       ·have := (hhr0.okn _ _ h).1
        omega
       ·exact hput d j h
      refine ⟨.inl w.heap.size :: rs, List.nodup_cons.2 ⟨fun h => by have := hne _ h; omega, m1⟩, by rw [m2]; rfl, mr, fun h => (hshut h).elim, fun r hr => ?_⟩
      rcases List.mem_cons.1 hr with rfl | hr
      ·refine ⟨hc.base_le, ?_, fun d j hb => ?_, ?_⟩
       ·rw [World.putObj_heap_other (by omega), hA.ext.same _ (by simp; omega) hput]; exact hAL
       ·exact hB'n d j (Bd.cutK_blk hb)
       ·intro n hc; rcases CutK_cases hc with h | ⟨j, ep, esz, _, h⟩
        ·exact hok'n n h
        ·exact hB'n 0 j (by rw [h]; rfl)
      ·exact (m3 r hr).2
     have hend := run_endLoop (P := E.P) q2 hst.1
     refine ⟨L2.pending, _, hend, ?_⟩
     have hsr : SR p base (St.trim s0.heap.top.length { s0 with heap := h2 }) _ _ (w'.putObj (w.heap.size + 1) (.loop { L2 with state := .exhausted })) { a with defers := [{ target := .collected w.heap.size, args := #[] }] ++ a.defers } :=
      ⟨hhF, htF, hmF⟩
     have hlen : (St.trim s0.heap.top.length { s0 with heap := h2 }).heap.length = s.heap.length := by
      rw [t3]
      simp only [hA.len, Heap.length_push, hl0]
     have hpend := hst.2.1
     have hgp := hst.2.2
     generalize w'.putObj (w.heap.size + 1) (.loop { L2 with state := .exhausted }) = wF at hsr hxF ⊢
     rw [hpend]
     cases pj with
     | none =>
      simp only [Option.some.injEq, Prod.mk.injEq] at he
      obtain ⟨rfl, rfl⟩ := he
      exact hc.post _ _ _ _ hxF hsr hlen
     | some c =>
      refine hS.code c _ e s' he Fence.wide base _ _ _ _ Q ⟨hgp c rfl, .inl rfl, (fun h => by rcases h with h | h; exact absurd rfl h; exact (hshut h).elim), hsr, Nat.le_trans hc.base_le hxF.size, ?_⟩
      intro ok2 B2 w2 a2 hx2 hs2 hl2
      exact hc.post ok2 B2 w2 a2 (hxF.trans hx2) hs2 (hl2.trans hlen)
    ·cases he
   ·cases he
 ·cases hcall
theorem ev_step : Sound E.P p (evStep E rec) (m + 1) := by
 constructor
 ·intro c s e s' he F base ok B w a Q hc
  cases c with
  | skip =>
   simp only [evStep, Option.some.injEq, Prod.mk.injEq] at he
   obtain ⟨rfl, rfl⟩ := he
   exact wpIn_skip (hc.post ok B w a (Ext.refl ok B w) hc.st rfl)
  | region id ops draw =>
   simp only [evStep, Option.bind_eq_some_iff] at he
   obtain ⟨s1, he, he1⟩ := he
   split at he1
   ·cases he1
   ·rename_i hok
    simp only [Option.some.injEq, Prod.mk.injEq] at he1
    obtain ⟨rfl, rfl⟩ := he1
    cases draw with
    | false =>
     refine wpIn_region ?_
     rw [List.range_eq_range']
     have := ops_sound hS hq hE hK hKI hc.fence (ops := ops) ops.toList 0 s s1 base ok B w a Q (by simp) he hc.st hc.post
     simpa using this
    | true => exact hD id ops s s1 (by simpa using hok) he F base ok B w a Q hc.fence hc.st hc.post
  | seq x y =>
   have hg := hc.good
   simp only [goodCode, Bool.and_eq_true] at hg
   have hn : ∀ z, (z = x ∨ z = y) → noRange (.seq x y) = true → noRange z = true := by
    intro z hz h; simp only [noRange, Bool.and_eq_true] at h; rcases hz with rfl | rfl; exact h.1; exact h.2
   simp only [evStep] at he
   refine wpIn_seq ?_
   split at he
   ·rename_i s1 h1
    refine hS.code x s .normal s1 h1 F base ok B w a _ (hc.sub hg.1 (hn x (.inl rfl)) ?_)
    intro ok1 B1 w1 a1 hx1 hs1 hl1
    refine hS.code y s1 e s' he F base ok1 B1 w1 a1 Q ⟨hg.2, hc.fence, fun h => hn y (.inr rfl) (hc.rounds h), hs1, Nat.le_trans hc.base_le hx1.size, ?_⟩
    intro ok2 B2 w2 a2 hx2 hs2 hl2
    exact hc.post ok2 B2 w2 a2 (hx1.trans hx2) hs2 (hl2.trans hl1)
   ·rename_i hne
    refine hS.code x s e s' he F base ok B w a _ (hc.sub hg.1 (hn x (.inl rfl)) ?_)
    intro ok1 B1 w1 a1 hx1 hs1 hl1
    have := hc.post ok1 B1 w1 a1 hx1 hs1 hl1
    cases e with
    | normal => exact (hne s' he).elim
    | _ => exact this
  | cond x y z =>
   have hg := hc.good
   simp only [goodCode, Bool.and_eq_true] at hg
   simp only [evStep] at he
   split at he
   ·rename_i t ht
    have hev := evalT_rel hc.st.tmps x
    rw [ht] at hev
    simp only [VRel] at hev
    refine wpIn_cond hev ?_
    refine hS.code _ s e s' he F base ok B w a Q (hc.sub (by cases t; exact hg.2; exact hg.1) (fun h => by simp only [noRange, Bool.and_eq_true] at h; cases t; exact h.2; exact h.1) hc.post)
   ·cases he
  | block id c =>
   have hg := hc.good
   simp only [goodCode] at hg
   simp only [evStep] at he
   refine wpIn_block ?_
   have hn : noRange (.block id c) = true → noRange c = true := fun h => by simpa [noRange] using h
   split at he
   ·rename_i i s1 h1
    refine hS.code c s (.exit i) s1 h1 F base ok B w a _ (hc.sub hg hn ?_)
    intro ok1 B1 w1 a1 hx1 hs1 hl1
    simp only [Exit.inBlock]
    split at he
    ·rename_i hi
     simp only [Option.some.injEq, Prod.mk.injEq] at he
     obtain ⟨rfl, rfl⟩ := he
     rw [if_pos hi]; exact hc.post ok1 B1 w1 a1 hx1 hs1 hl1
    ·rename_i hi
     simp only [Option.some.injEq, Prod.mk.injEq] at he
     obtain ⟨rfl, rfl⟩ := he
     rw [if_neg hi]; exact hc.post ok1 B1 w1 a1 hx1 hs1 hl1
   ·rename_i hne
    refine hS.code c s e s' he F base ok B w a _ (hc.sub hg hn ?_)
    intro ok1 B1 w1 a1 hx1 hs1 hl1
    have := hc.post ok1 B1 w1 a1 hx1 hs1 hl1
    cases e with
    | exit i => exact (hne i s' he).elim
    | _ => exact this
  | loop body => exact wpIn_loop_rounds (m + 1) (loop_step hS hq hE hK hKI hD he hc)
  | rangeFunc g ps assign body => exact range_step hS hq hE hK hKI hD he hc
  | exit id =>
   simp only [evStep, Option.some.injEq, Prod.mk.injEq] at he
   obtain ⟨rfl, rfl⟩ := he
   exact wpIn_exit (hc.post ok B w a (Ext.refl ok B w) hc.st rfl)
  | scope c =>
   have hFw : F = Fence.wide := by
    rcases hc.fence with h | ⟨l, rfl⟩
    ·exact h
    ·have := hc.rounds (.inl (by simp [Fence.inRound])); simp [noRange] at this
   subst hFw
   have hg := hc.good
   simp only [goodCode] at hg
   simp only [evStep] at he
   rw [wpIn_wide]
   split at he
   ·rename_i l s1 h1
    split at he
    ·rename_i rest hfl
     refine wp_scope_jumps l (fun a w => rest.wp E.P (Exit.noGoto Q) a w) (fun _ _ => 0) hfl ?_ ?_
     ·rw [← wpIn_wide (n := 0)]
      refine hS.code c s (.goto l) s1 h1 Fence.wide base ok B w a _ ⟨hg, .inl rfl, (fun h => by rcases h with h | h; exact absurd rfl h; have := hc.rounds (.inr h); simp [noRange] at this), hc.st, hc.base_le, ?_⟩
      intro ok1 B1 w1 a1 hx1 hs1 hl1
      refine ⟨rfl, ?_⟩
      show rest.wp E.P (Exit.noGoto Q) a1 w1
      rw [← wpIn_wide (n := 0)]
      have hgr : goodCode p rest = true := good_label c l rest hg hfl
      split at he
      ·cases he
      ·rename_i hne
       refine hS.code rest s1 e s' he Fence.wide base ok1 B1 w1 a1 _ ⟨hgr, .inl rfl, (fun h => by rcases h with h | h; exact absurd rfl h; have := hc.rounds (.inr h); simp [noRange] at this), hs1, Nat.le_trans hc.base_le hx1.size, ?_⟩
       intro ok2 B2 w2 a2 hx2 hs2 hl2
       have := hc.post ok2 B2 w2 a2 (hx1.trans hx2) hs2 (hl2.trans hl1)
       cases e with
       | goto l' => exact (hne l' s' he).elim
       | _ => exact this
     ·intro a1 w1 hJ
      refine wp_mono hJ fun e a w h => ?_
      cases e <;> first | exact h | exact h.elim
    ·cases he
   ·rename_i hne
    refine wp_scope_straight ?_
    rw [← wpIn_wide (n := 0)]
    refine hS.code c s e s' he Fence.wide base ok B w a _ ⟨hg, .inl rfl, (fun h => by rcases h with h | h; exact absurd rfl h; have := hc.rounds (.inr h); simp [noRange] at this), hc.st, hc.base_le, ?_⟩
    intro ok1 B1 w1 a1 hx1 hs1 hl1
    have := hc.post ok1 B1 w1 a1 hx1 hs1 hl1
    cases e with
    | goto l' => exact (hne l' s' he).elim
    | _ => exact this
  | label l =>
   simp only [evStep, Option.some.injEq, Prod.mk.injEq] at he
   obtain ⟨rfl, rfl⟩ := he
   exact wpIn_label (hc.post ok B w a (Ext.refl ok B w) hc.st rfl)
  | goto l =>
   simp only [evStep, Option.some.injEq, Prod.mk.injEq] at he
   obtain ⟨rfl, rfl⟩ := he
   exact wpIn_goto (hc.post ok B w a (Ext.refl ok B w) hc.st rfl)
  | ret =>
   simp only [evStep, Option.some.injEq, Prod.mk.injEq] at he
   obtain ⟨rfl, rfl⟩ := he
   exact wpIn_ret (hc.post ok B w a (Ext.refl ok B w) hc.st rfl)
  | refuse _ => simp [evStep] at he
 ·intro c s e s' he F base ok B w a Q hc
  exact loop_step hS hq hE hK hKI hD he hc
end
end
end Go.Sim
end
section
namespace Go.Sim
open Go
def Above (h H : Heap) : Prop := ∀ d j b, h.get d j = some b → H.get d j = some b
theorem Above.refl (h : Heap) : Above h h := fun _ _ _ h => h
theorem Above.trans {a b c : Heap} (h1 : Above a b) (h2 : Above b c) : Above a c := fun d j x h => h2 d j x (h1 d j x h)
theorem Above.push {h : Heap} (hp : 0 < h.length) (b : Blk) : Above h (h.push b) := by
 intro d j x hx
 rw [Heap.get_push hp]
 by_cases hq : d = 0 ∧ j = h.top.length
 ·obtain ⟨rfl, rfl⟩ := hq
  rw [Heap.get_top hp, List.getElem?_eq_none (Nat.le_refl _)] at hx; cases hx
 ·rw [if_neg hq]; exact hx
section
variable {E : Env} {h H : Heap} {ρ : Operand → V}
theorem load_above {a : V} {n : Nat} {l : List V} (ha : Above h H) (hl : h.load a n = some l) : H.load a n = some l := by
 unfold Heap.load at hl ⊢
 split at hl
 ·rename_i d j off ep
  split at hl
  ·rename_i cells ep' esz flat plain hg
   simp only [ha _ _ _ hg]; exact hl
  ·cases hl
 ·exact hl
 ·cases hl
theorem sliceCells_above {s : V} {k n : Nat} {l : List V} (ha : Above h H) (hl : h.sliceCells s k n = some l) : H.sliceCells s k n = some l := by
 unfold Heap.sliceCells at hl ⊢
 split at hl
 ·exact hl
 ·rename_i d j off len ep q
  split at hl
  ·rename_i cells ep' esz flat plain hg
   simp only [ha _ _ _ hg]; exact hl
  ·cases hl
 ·exact hl
 ·cases hl
theorem loadV_above {P : Program} {t : TypeId} {a v : V} (ha : Above h H) (hl : loadV P h t a = some v) : loadV P H t a = some v := by
 simp only [loadV, Option.bind_eq_some_iff] at hl ⊢
 obtain ⟨g, hg, hl⟩ := hl
 refine ⟨g, hg, ?_⟩
 split at hl
 ·rename_i ht
  rw [if_pos ht]
  simp only [Option.bind_eq_some_iff, Option.map_eq_some_iff] at hl ⊢
  obtain ⟨n, hn, l, hl, rfl⟩ := hl
  exact ⟨n, hn, l, load_above ha hl, rfl⟩
 ·rename_i ht
  rw [if_neg ht]
  simp only [Option.bind_eq_some_iff] at hl ⊢
  obtain ⟨l, hl, hv⟩ := hl
  exact ⟨l, load_above ha hl, hv⟩
theorem conv_int {P : Program} {src dst : TypeId} {k : IntKind} (hd : P.underlying dst = some (.int k)) {x v : V} {h' : Heap} (hc : convertV P h src dst x = some (v, h')) : h' = h ∧ ∀ H, convertV P H src dst x = some (v, H) := by
 unfold convertV at hc ⊢
 rw [hd] at hc ⊢
 split at hc
 ·rename_i d k' kk n hs hd'
  simp only [Option.some.injEq, Prod.mk.injEq] at hc
  obtain ⟨rfl, rfl⟩ := hc
  refine ⟨rfl, fun H => ?_⟩
  simp only [hs]
 all_goals first | (rename_i hd'; cases hd'; done) | (rename_i _ hd'; cases hd'; done) | cases hc | simp_all
theorem conv_string {P : Program} {src dst : TypeId} (hs0 : P.underlying src = some .string) (hd : P.underlying dst = some .string) {x v : V} {h' : Heap} (hc : convertV P h src dst x = some (v, h')) : h' = h ∧ ∀ H, convertV P H src dst x = some (v, H) := by
 unfold convertV at hc ⊢
 rw [hd, hs0] at hc ⊢
 cases x <;> simp at hc
 obtain ⟨rfl, rfl⟩ := hc
 exact ⟨rfl, fun H => rfl⟩
theorem convertV_bytes {P : Program} {src dst e : TypeId} (hs0 : P.underlying src = some (.slice e)) (hd : P.underlying dst = some .string) {x : V} (hx : ∀ s, x ≠ .str s) (h : Heap) :
  convertV P h src dst x = (match P.underlying e with
   | some (.int .u8) => (lenV x).bind fun n => (h.sliceCells x 1 n).bind fun cs => if cs.all isByte then some (V.str (cs.map byteOf), h) else none
   | _ => none) := by
 unfold convertV
 rw [hs0, hd]
 cases x <;> first | rfl | exact absurd rfl (hx _)
theorem conv_bytes {P : Program} {src dst e : TypeId} (hs0 : P.underlying src = some (.slice e)) (hd : P.underlying dst = some .string) {x v : V} {h' : Heap} (hc : convertV P h src dst x = some (v, h')) : h' = h ∧ ∀ H, Above h H → convertV P H src dst x = some (v, H) := by
 by_cases hx : ∃ s, x = .str s
 ·obtain ⟨s, rfl⟩ := hx
  unfold convertV at hc ⊢
  rw [hd, hs0] at hc ⊢
  simp at hc
  obtain ⟨rfl, rfl⟩ := hc
  exact ⟨rfl, fun H _ => rfl⟩
 ·have hx' : ∀ s, x ≠ .str s := fun s e => hx ⟨s, e⟩
  rw [convertV_bytes hs0 hd hx'] at hc
  split at hc
  ·rename_i hu
   simp only [Option.bind_eq_some_iff] at hc
   obtain ⟨n, hn, cs, hcs, hc⟩ := hc
   split at hc
   ·rename_i hall
    simp only [Option.some.injEq, Prod.mk.injEq] at hc
    obtain ⟨rfl, rfl⟩ := hc
    refine ⟨rfl, fun H hA => ?_⟩
    rw [convertV_bytes hs0 hd hx', hu]
    simp only [hn, Option.bind_some, sliceCells_above hA hcs, hall, if_true]
   ·cases hc
  ·cases hc
theorem convertV_str {P : Program} {src dst e : TypeId} (hs0 : P.underlying src = some .string) (hd : P.underlying dst = some (.slice e)) {x : V} (h : Heap) :
  convertV P h src dst x = (match x with
   | .str s => (match P.underlying e with
    | some (.int .u8) => some (.sref 0 h.top.length 0 s.length 0 (1, false), (newRow h (s.map u8) 1).2)
    | _ => none)
   | _ => none) := by
 unfold convertV
 rw [hs0, hd]
 cases x <;> rfl
theorem op_n {o : Op} {v : V} {h' : Heap} (hk : kindOf E.P o = .n) (hop : opV E ρ h o = some (v, h')) : h' = h ∧ ∀ H, opV E ρ H o = some (v, H) := by
 unfold opV at hop ⊢
 split at hop
 all_goals try (simp [kindOf] at hk; done)
 all_goals try
  (simp only [Option.map_eq_some_iff, Prod.mk.injEq] at hop
   obtain ⟨v', hv, rfl, rfl⟩ := hop
   exact ⟨rfl, fun H => by simp only [hv]; rfl⟩)
 all_goals try
  (simp only [Option.some.injEq, Prod.mk.injEq] at hop
   obtain ⟨rfl, rfl⟩ := hop
   exact ⟨rfl, fun H => rfl⟩)
 ·rename_i c a b
  split at hop
  ·rename_i t ht
   simp only [Option.some.injEq, Prod.mk.injEq] at hop
   obtain ⟨rfl, rfl⟩ := hop
   exact ⟨rfl, fun H => by simp only [ht]⟩
  ·cases hop
 ·rename_i src dst x
  simp only [kindOf] at hk
  split at hk
  ·rename_i hd; exact conv_int hd hop
  ·rename_i hs hd; exact conv_string hs hd hop
  ·cases hk
  ·cases hk
  ·cases hk
 ·rename_i t x
  split at hop
  ·cases hop
  ·rename_i d hni hu
   simp only [Option.some.injEq, Prod.mk.injEq] at hop
   obtain ⟨rfl, rfl⟩ := hop
   refine ⟨rfl, fun H => ?_⟩
   cases d <;> first | exact absurd rfl (hni _) | simp only [hu]
  ·cases hop
 ·rename_i t i
  split at hop
  ·rename_i vs hvs
   simp only [Option.map_eq_some_iff, Prod.mk.injEq] at hop
   obtain ⟨v', hv, rfl, rfl⟩ := hop
   exact ⟨rfl, fun H => by simp only [hvs, hv]; rfl⟩
  ·cases hop
 ·rename_i b args ts
  unfold builtinV at hop ⊢
  split at hop
  ·simp [kindOf] at hk
  ·simp [kindOf] at hk
  ·simp only [Option.map_eq_some_iff, Prod.mk.injEq] at hop
   obtain ⟨v', hv, rfl, rfl⟩ := hop
   exact ⟨rfl, fun H => by simp only [hv]; rfl⟩
  ·simp only [Option.map_eq_some_iff, Prod.mk.injEq] at hop
   obtain ⟨v', hv, rfl, rfl⟩ := hop
   exact ⟨rfl, fun H => by simp only [hv]; rfl⟩
  ·simp [kindOf] at hk
  ·simp only [Option.map_eq_some_iff, Prod.mk.injEq] at hop
   obtain ⟨v', hv, rfl, rfl⟩ := hop
   exact ⟨rfl, fun H => by simp only [hv]; rfl⟩
  ·simp only [Option.map_eq_some_iff, Prod.mk.injEq] at hop
   obtain ⟨v', hv, rfl, rfl⟩ := hop
   exact ⟨rfl, fun H => by simp only [hv]; rfl⟩
  ·cases hop
 ·cases hop
theorem op_r {o : Op} {v : V} {h' : Heap} (hk : kindOf E.P o = .r) (hop : opV E ρ h o = some (v, h')) : h' = h ∧ ∀ H, Above h H → opV E ρ H o = some (v, H) := by
 unfold opV at hop ⊢
 split at hop
 all_goals try (simp [kindOf] at hk; done)
 ·rename_i t a
  simp only [Option.map_eq_some_iff, Prod.mk.injEq] at hop
  obtain ⟨v', hv, rfl, rfl⟩ := hop
  exact ⟨rfl, fun H hA => by simp only [loadV_above hA hv]; rfl⟩
 ·rename_i src dst x
  simp only [kindOf] at hk
  split at hk
  ·cases hk
  ·cases hk
  ·rename_i e hs hd; exact conv_bytes hs hd hop
  ·cases hk
  ·cases hk
 ·rename_i b args ts
  cases b <;> simp [kindOf] at hk
 ·cases hop
theorem op_a {o : Oper} {v : V} {h' : Heap} (hk : kindOf E.P o.op = .a) (hop : opV E ρ h o.op = some (v, h')) :
  ∃ (vf : Nat → V) (blk : Blk), v = vf h.top.length ∧ h' = h.push blk ∧ ∀ (p : Array Oper → Bool) (ok : Nat → Nat → Prop) (B : Bd) (w : World) (ρ' : Operand → Value), (∀ x, VRel ok w B (ρ x) (ρ' x)) →
   ∃ s : Sem Value, execOp ρ' o = (do pure (.value (← s))) ∧ AllocAt ok B p E.P w s vf blk := by
 unfold opV at hop
 split at hop
 all_goals try (rename_i heq; rw [heq] at hk; simp [kindOf] at hk; done)
 ·rename_i op elem heq
  simp only [Option.bind_eq_some_iff] at hop
  obtain ⟨z, hz, hop⟩ := hop
  split at hop
  ·rename_i hok
   simp only [Option.some.injEq, Prod.mk.injEq] at hop
   obtain ⟨rfl, rfl⟩ := hop
   exact ⟨fun j => .pref 0 j 0 0, rowOf z.cells z.cells.length, rfl, rfl, fun p ok B w ρ' hρ => ⟨Instr.alloc elem true (.tuple #[]), by simp only [execOp, heq], alloc_rel hz hok⟩⟩
  ·cases hop
 ·rename_i op ty x heq
  split at hop
  ·rename_i hok
   simp only [Option.some.injEq, Prod.mk.injEq] at hop
   obtain ⟨rfl, rfl⟩ := hop
   exact ⟨fun j => .pref 0 j 0 0, rowOf (ρ x).cells (ρ x).cells.length, rfl, rfl, fun p ok B w ρ' hρ => ⟨Instr.box ty (ρ' x), by simp only [execOp, heq], box_rel ty hok (hρ x)⟩⟩
  ·cases hop
 ·rename_i op t len parts heq
  split at hop
  ·rename_i elem hu
   simp only [Option.bind_eq_some_iff] at hop
   obtain ⟨k, hk, z, hz, hop⟩ := hop
   split at hop
   ·rename_i hc
    simp only [Option.bind_eq_some_iff] at hop
    obtain ⟨cells, hcl, hop⟩ := hop
    split at hop
    ·simp only [Option.some.injEq, Prod.mk.injEq] at hop
     obtain ⟨rfl, rfl⟩ := hop
     exact ⟨fun j => .sref 0 j 0 len 0 (k, true), rowOf cells k, rfl, rfl, fun p ok B w ρ' hρ => ⟨Instr.buildSlice t len (parts.map fun (i, x) => (i, ρ' x)), by simp only [execOp, heq],
      buildSlice_rel hu hk hz hc.1 hc.2.1 hc.2.2 hcl (by rw [Array.toList_map]; exact partsRel hρ parts.toList)⟩⟩
    ·cases hop
   ·cases hop
  ·cases hop
 ·rename_i op src dst x heq
  rw [heq] at hk
  simp only [kindOf] at hk
  split at hk
  ·cases hk
  ·cases hk
  ·cases hk
  ·rename_i e hs hd
   rw [convertV_str hs hd] at hop
   split at hop
   ·rename_i s hx
    split at hop
    ·rename_i he
     simp only [Option.some.injEq, Prod.mk.injEq] at hop
     obtain ⟨rfl, rfl⟩ := hop
     refine ⟨fun j => .sref 0 j 0 s.length 0 (1, false), rowOf (s.map u8) 1, rfl, rfl, fun p ok B w ρ' hρ => ⟨convert src dst (ρ' x), by simp only [execOp, heq], ?_⟩⟩
     have hv := hρ x
     rw [hx] at hv
     simp only [VRel] at hv
     have hc : convert src dst (ρ' x) = convert src dst (.string ⟨s.toArray⟩) := by rw [hv]
     intro H j hh hout hg
     obtain ⟨c, w', B', h1, h2⟩ := strBytes_rel (P := E.P) e s H j hh hout hg
     refine ⟨c, w', B', ?_, h2⟩
     rw [hc]
     simp [convert, r_under hs, r_under hd, r_under he, h1]
    ·cases hop
   ·cases hop
  ·cases hk
 ·rename_i op t l c heq
  obtain ⟨vf, blk, h1, h2, hA⟩ := makeSlice_rel hop
  exact ⟨vf, blk, h1, h2, fun p ok B w ρ' hρ => ⟨Instr.makeSlice t (ρ' l) (ρ' c), by simp only [execOp, heq], hA ok B p w _ _ (hρ l) (hρ c)⟩⟩
 ·rename_i op b args ts heq
  rw [heq] at hk
  cases b <;> simp [kindOf] at hk
 ·cases hop
def PureR (ok : Nat → Nat → Prop) (B : Bd) (P : Program) (w : World) (s : Sem Next) (v : V) : Prop := ∃ n c, s.run P w = .ok n w ∧ Gives n c ∧ VRel ok w B v c
theorem PureR.of {P : Program} {w : World} {ok : Nat → Nat → Prop} {B : Bd} {s : Sem Value} {v : V} (hs : ∃ c, s.run P w = .ok c w ∧ VRel ok w B v c) : PureR ok B P w (do pure (.value (← s))) v := by
 obtain ⟨c, h1, h2⟩ := hs
 exact ⟨.value c, c, by simp [h1], .inl rfl, h2⟩
theorem op_pure {w : World} {ok : Nat → Nat → Prop} {B : Bd} {p : Array Oper → Bool} (hq : EqOk E) (hh : HR ok w B p h) {ρ' : Operand → Value} (hρ : ∀ x, VRel ok w B (ρ x) (ρ' x)) {o : Oper} {v : V} {h' : Heap}
  (hk : kindOf E.P o.op = .n ∨ kindOf E.P o.op = .r) (hop : opV E ρ h o.op = some (v, h')) : PureR ok B E.P w (execOp ρ' o) v := by
 unfold opV at hop
 split at hop
 all_goals try (rename_i heq; rw [heq] at hk; simp [kindOf] at hk; done)
 ·rename_i op x heq
  simp only [Option.some.injEq, Prod.mk.injEq] at hop
  obtain ⟨rfl, rfl⟩ := hop
  exact ⟨.value (ρ' x), ρ' x, by simp [execOp, heq], .inl rfl, hρ x⟩
 ·rename_i op x heq
  simp only [Option.some.injEq, Prod.mk.injEq] at hop
  obtain ⟨rfl, rfl⟩ := hop
  exact ⟨.value (ρ' x), ρ' x, by simp [execOp, heq], .inl rfl, hρ x⟩
 ·rename_i op c a b heq
  split at hop
  ·rename_i t ht
   simp only [Option.some.injEq, Prod.mk.injEq] at hop
   obtain ⟨rfl, rfl⟩ := hop
   have hc := hρ c
   rw [ht] at hc
   simp only [VRel] at hc
   cases t with
   | true => exact ⟨.value (ρ' a), ρ' a, by simp [execOp, heq, hc, asBool], .inl rfl, hρ a⟩
   | false => exact ⟨.value (ρ' b), ρ' b, by simp [execOp, heq, hc, asBool], .inl rfl, hρ b⟩
  ·cases hop
 ·rename_i op t parts heq
  simp only [Option.map_eq_some_iff, Prod.mk.injEq] at hop
  obtain ⟨v', hv, rfl, rfl⟩ := hop
  have : execOp ρ' o = (do pure (.value (← Instr.build t (parts.map fun (i, x) => (i, ρ' x))))) := by simp only [execOp, heq]
  rw [this]
  exact PureR.of (build_rel hv (by rw [Array.toList_map]; exact partsRel hρ parts.toList))
 ·rename_i op t a heq
  simp only [Option.map_eq_some_iff, Prod.mk.injEq] at hop
  obtain ⟨v', hv, rfl, rfl⟩ := hop
  have : execOp ρ' o = (do pure (.value (← Instr.loadAt t (ρ' a)))) := by simp only [execOp, heq]
  rw [this]
  exact PureR.of (loadV_rel hh hv (hρ a))
 ·rename_i op x heq
  simp only [Option.map_eq_some_iff, Prod.mk.injEq] at hop
  obtain ⟨v', hv, rfl, rfl⟩ := hop
  have hr := nilCheck_rel hv (hρ x)
  refine ⟨.value (ρ' x), ρ' x, ?_, .inl rfl, hr⟩
  have hx := hρ x
  simp only [execOp, heq]
  unfold nilCheckV at hv
  split at hv
  ·rename_i d j oo ep hxe
   rw [hxe] at hx
   obtain ⟨a, ha⟩ := VRel.pshape hx
   simp [ha]
  ·rename_i cs oo hxe
   rw [hxe] at hx
   simp only [VRel] at hx
   obtain ⟨b, base, ha, _⟩ := hx
   simp [ha]
  ·rename_i f a b hxe
   rw [hxe] at hx
   simp only [VRel] at hx
   obtain ⟨a', b', ha, _⟩ := hx
   simp [ha]
  ·rename_i d j hxe
   rw [hxe] at hx
   rcases VRel.yshape hx with ⟨a, ha⟩ | ⟨a, ha⟩
   all_goals simp [ha]
  ·rename_i t x' hxe
   rw [hxe] at hx
   simp only [VRel] at hx
   obtain ⟨a, ha, _⟩ := hx
   simp [ha]
  ·cases hv
 ·rename_i op bop t x y n heq
  simp only [Option.map_eq_some_iff, Prod.mk.injEq] at hop
  obtain ⟨v', hv, rfl, rfl⟩ := hop
  have : execOp ρ' o = (do pure (.value (← (do eqGuard bop t x y (ρ' x) (ρ' y); binOp bop t (ρ' x) (ρ' y) : Sem Value)))) := by simp only [execOp, heq]
  rw [this]
  exact PureR.of (binO_rel hq hv (hρ x) (hρ y))
 ·rename_i op uop t x heq
  simp only [Option.map_eq_some_iff, Prod.mk.injEq] at hop
  obtain ⟨v', hv, rfl, rfl⟩ := hop
  have : execOp ρ' o = (do pure (.value (← Op.unary uop (ρ' x)))) := by simp only [execOp, heq]
  rw [this]
  exact PureR.of (unV_rel hv (hρ x))
 ·rename_i op src dst x heq
  rw [heq] at hk
  have he : execOp ρ' o = (do pure (.value (← convert src dst (ρ' x)))) := by simp only [execOp, heq]
  rw [he]
  refine PureR.of ?_
  simp only [kindOf] at hk
  split at hk
  ·rename_i k hd
   have hx := hρ x
   unfold convertV at hop
   rw [hd] at hop
   split at hop
   ·rename_i d k' kk n hs hd' hx'
    rw [hx'] at hx
    simp only [VRel] at hx
    cases hd'
    simp only [Option.some.injEq, Prod.mk.injEq] at hop
    obtain ⟨rfl, rfl⟩ := hop
    exact ⟨_, by rw [hx]; simp [convert, r_under hs, r_under hd, Conv.intToInt]; rfl, by simp [VRel]⟩
   all_goals first | (cases hop; done) | simp_all
  ·rename_i hs hd
   have hx := hρ x
   unfold convertV at hop
   rw [hd, hs] at hop
   cases hxe : ρ x <;> rw [hxe] at hop hx <;> simp at hop
   obtain ⟨rfl, rfl⟩ := hop
   exact ⟨ρ' x, by simp only [VRel] at hx; rw [hx]; simp [convert, r_under hs, r_under hd], hx⟩
  ·rename_i e hs hd
   have hx := hρ x
   by_cases hstr : ∃ s, ρ x = .str s
   ·obtain ⟨s, hse⟩ := hstr
    rw [hse] at hop hx
    unfold convertV at hop
    rw [hd, hs] at hop
    simp at hop
    obtain ⟨rfl, rfl⟩ := hop
    exact ⟨ρ' x, by simp only [VRel] at hx; rw [hx]; simp [convert, r_under hs, r_under hd], hx⟩
   ·have hns : ∀ s, ρ x ≠ .str s := fun s e => hstr ⟨s, e⟩
    rw [convertV_bytes hs hd hns] at hop
    split at hop
    ·rename_i hu
     simp only [Option.bind_eq_some_iff] at hop
     obtain ⟨n, hn, cs, hcs, hop⟩ := hop
     split at hop
     ·rename_i hb
      simp only [Option.some.injEq, Prod.mk.injEq] at hop
      obtain ⟨rfl, rfl⟩ := hop
      obtain ⟨hrun, b, l, c, hxe⟩ := bytesStr_rel (P := E.P) hh hcs hn hns hb hx
      rw [hxe] at hrun ⊢
      refine ⟨.string ⟨(cs.map byteOf).toArray⟩, ?_, by simp [VRel]⟩
      cases b <;> simp [convert, r_under hs, r_under hd, r_under hu, hrun]
     ·cases hop
    ·cases hop
  ·simp at hk
  ·simp at hk
 ·rename_i op t x heq
  have : execOp ρ' o = (do pure (.value (← Instr.makeInterface t (ρ' x)))) := by simp only [execOp, heq]
  rw [this]
  split at hop
  ·cases hop
  ·rename_i d hni hu
   simp only [Option.some.injEq, Prod.mk.injEq] at hop
   obtain ⟨rfl, rfl⟩ := hop
   exact PureR.of ⟨_, makeInterface_rel hu (fun ms e => hni ms e) (hρ x)⟩
  ·cases hop
 ·rename_i op fn first captured heq
  simp only [Option.some.injEq, Prod.mk.injEq] at hop
  obtain ⟨rfl, rfl⟩ := hop
  have : execOp ρ' o = (do pure (.value (← Instr.makeFunc fn (first.map ρ') (captured.map ρ')))) := by simp only [execOp, heq]
  rw [this]
  refine PureR.of ⟨.func fn (first.map ρ') (captured.map ρ'), by simp [Instr.makeFunc], ?_⟩
  simp only [VRel]
  exact ⟨first.toList.map ρ', captured.toList.map ρ', by rw [← Array.toList_map, ← Array.toList_map], mapRel hρ _, mapRel hρ _⟩
 ·rename_i op t x lo hi mx heq
  simp only [Option.map_eq_some_iff, Prod.mk.injEq] at hop
  obtain ⟨v', hv, rfl, rfl⟩ := hop
  have : execOp ρ' o = (do pure (.value (← Instr.sliceAt t (ρ' x) (lo.map ρ') (hi.map ρ') (mx.map ρ')))) := by simp only [execOp, heq]
  rw [this]
  exact PureR.of (slice_rel hv (hρ x) (optRel hρ lo) (optRel hρ hi) (optRel hρ mx))
 ·rename_i op s x f heq
  simp only [Option.map_eq_some_iff, Prod.mk.injEq] at hop
  obtain ⟨v', hv, rfl, rfl⟩ := hop
  have : execOp ρ' o = (do pure (.value (← Instr.fieldAt s (ρ' x) f))) := by simp only [execOp, heq]
  rw [this]
  exact PureR.of (fieldAddr_rel hv (hρ x))
 ·rename_i op t x f heq
  simp only [Option.map_eq_some_iff, Prod.mk.injEq] at hop
  obtain ⟨v', hv, rfl, rfl⟩ := hop
  have : execOp ρ' o = (do pure (.value (← Instr.field t (ρ' x) f))) := by simp only [execOp, heq]
  rw [this]
  exact PureR.of (field_rel hv (hρ x))
 ·rename_i op t x i heq
  simp only [Option.map_eq_some_iff, Prod.mk.injEq] at hop
  obtain ⟨v', hv, rfl, rfl⟩ := hop
  have : execOp ρ' o = (do pure (.value (← Instr.indexAt t (ρ' x) (ρ' i)))) := by simp only [execOp, heq]
  rw [this]
  exact PureR.of (indexAddr_rel hv (hρ x) (hρ i))
 ·rename_i op t x i heq
  simp only [Option.map_eq_some_iff, Prod.mk.injEq] at hop
  obtain ⟨v', hv, rfl, rfl⟩ := hop
  have : execOp ρ' o = (do pure (.value (← Instr.index t (ρ' x) (ρ' i)))) := by simp only [execOp, heq]
  rw [this]
  exact PureR.of (index_rel hv (hρ x) (hρ i))
 ·rename_i op x xt asserted ck heq
  simp only [Option.map_eq_some_iff, Prod.mk.injEq] at hop
  obtain ⟨v', hv, rfl, rfl⟩ := hop
  have : execOp ρ' o = (do pure (.value (← Instr.typeAssert (ρ' x) xt asserted ck))) := by simp only [execOp, heq]
  rw [this]
  exact PureR.of (assert_rel hv (hρ x))
 ·rename_i op t i heq
  split at hop
  ·rename_i vs hvs
   simp only [Option.map_eq_some_iff, Prod.mk.injEq] at hop
   obtain ⟨v', hv, rfl, rfl⟩ := hop
   have : execOp ρ' o = (do pure (.value (← Instr.extract (ρ' t) i))) := by simp only [execOp, heq]
   rw [this]
   have ht := hρ t
   rw [hvs] at ht
   simp only [VRel] at ht
   obtain ⟨vs', he, hr⟩ := ht
   obtain ⟨c, hc, hcr⟩ := hr.get hv
   refine PureR.of ⟨c, ?_, hcr⟩
   simp [he, Instr.extract, hc]
  ·cases hop
 ·rename_i op b args ts heq
  have he : execOp ρ' o = builtin b ts o.type (args.map fun | .const _ => true | _ => false) (args.map ρ') := by
   simp only [execOp, heq, resolve]
   rfl
  rw [he]
  rw [heq] at hk
  have ha : VRelL ok w B (args.toList.map ρ) (args.map ρ').toList := by rw [Array.toList_map]; exact mapRel hρ _
  generalize args.map ρ' = args' at ha
  generalize args.toList.map ρ = argsV at ha hop
  have hts : ∀ {t : TypeId} {r : List TypeId}, ts.toList = t :: r → ts[0]? = some t := by
   intro t r hr
   rw [← Array.getElem?_toList, hr]; rfl
  generalize hl : ts.toList = l at hop
  unfold builtinV at hop
  split at hop
  ·simp [kindOf] at hk
  ·simp [kindOf] at hk
  ·rename_i t r x
   have h0 := hts hl
   simp only [VRelL] at ha
   obtain ⟨c1, l1, e1, r1, rfl⟩ := ha
   have he' : args' = #[c1] := by apply Array.ext'; simpa using e1
   subst he'
   simp only [Option.map_eq_some_iff, Prod.mk.injEq] at hop
   obtain ⟨v', hv, rfl, rfl⟩ := hop
   exact PureR.of (len_rel hv r1 h0 _)
  ·rename_i t r x
   have h0 := hts hl
   simp only [VRelL] at ha
   obtain ⟨c1, l1, e1, r1, rfl⟩ := ha
   have he' : args' = #[c1] := by apply Array.ext'; simpa using e1
   subst he'
   simp only [Option.map_eq_some_iff, Prod.mk.injEq] at hop
   obtain ⟨n, hn, rfl, rfl⟩ := hop
   split at hn
   ·rename_i e hu
    exact PureR.of ⟨_, cap_rel hn r1 h0 hu _, by simp [VRel]⟩
   ·cases hn
  ·simp [kindOf] at hk
  ·rename_i x r
   simp only [VRelL] at ha
   obtain ⟨c1, l1, e1, r1, r2⟩ := ha
   simp only [Option.map_eq_some_iff, Prod.mk.injEq] at hop
   obtain ⟨v', hv, rfl, rfl⟩ := hop
   refine PureR.of ?_
   obtain ⟨c, hc, hr⟩ := fold_rel (P := E.P) (fun x y v a b h ha hb => min_rel x y v a b h ha hb) _ _ _ _ _ hv r1 r2
   exact ⟨c, by simp only [Builtin.min_, e1, hc], hr⟩
  ·rename_i x r
   simp only [VRelL] at ha
   obtain ⟨c1, l1, e1, r1, r2⟩ := ha
   simp only [Option.map_eq_some_iff, Prod.mk.injEq] at hop
   obtain ⟨v', hv, rfl, rfl⟩ := hop
   refine PureR.of ?_
   obtain ⟨c, hc, hr⟩ := fold_rel (P := E.P) (fun x y v a b h ha hb => max_rel x y v a b h ha hb) _ _ _ _ _ hv r1 r2
   exact ⟨c, by simp only [Builtin.max_, e1, hc], hr⟩
  ·cases hop
 ·cases hop
end
end Go.Sim
end
section
namespace Go.Sim
open Go
theorem Above.drop {h H : Heap} (ha : Above h H) (d : Nat) : Above (h.drop d) (H.drop d) := by
 intro d' j b hg
 rw [Heap.get_drop] at hg ⊢
 exact ha _ _ _ hg
theorem optMap_above {f g : V → Option V} (hf : ∀ v v', f v = some v' → g v = some v') : ∀ (l l' : List V), optMap f l = some l' → optMap g l = some l'
 | [], l', h => h
 | v :: r, l', h => by
  simp only [optMap, Option.bind_eq_some_iff] at h ⊢
  obtain ⟨v', h1, r', h2, h3⟩ := h
  exact ⟨v', hf _ _ h1, r', optMap_above hf _ _ h2, h3⟩
theorem view_above : ∀ (fuel : Nat) (h H : Heap), Above h H → ∀ (v v' : V), V.view fuel h v = some v' → V.view fuel H v = some v' := by
 intro fuel
 induction fuel with
 | zero => intro h H _ v v' hv; simp [V.view] at hv
 | succ n ih =>
  have row : ∀ (h H : Heap), Above h H → ∀ (d : Nat) (cells cs : List V) (flat : Bool), (if flat then some cells else optMap (V.view n (h.drop d)) cells) = some cs → (if flat then some cells else optMap (V.view n (H.drop d)) cells) = some cs := by
   intro h H ha d cells cs flat hv
   cases flat with
   | true => exact hv
   | false => exact optMap_above (fun v v' => ih _ _ (ha.drop d) v v') _ _ hv
  intro h H ha v v' hv
  have hl : ∀ l l', optMap (V.view n h) l = some l' → optMap (V.view n H) l = some l' := optMap_above fun v v' => ih _ _ ha v v'
  unfold V.view at hv ⊢
  split at hv
  ·rename_i d j off ep
   split at hv
   ·rename_i cells ep' esz flat plain hg
    simp only [ha _ _ _ hg]
    split at hv
    ·rename_i he
     rw [if_pos he]
     simp only [Option.bind_eq_some_iff] at hv ⊢
     obtain ⟨cs, hcs, hv⟩ := hv
     exact ⟨cs, row h H ha d cells cs flat hcs, hv⟩
    ·cases hv
   ·cases hv
  ·rename_i d j off len ep q
   split at hv
   ·rename_i cells ep' esz flat plain hg
    simp only [ha _ _ _ hg]
    split at hv
    ·rename_i he
     rw [if_pos he]
     simp only [Option.bind_eq_some_iff] at hv ⊢
     obtain ⟨cs, hcs, hv⟩ := hv
     exact ⟨cs, row h H ha d cells cs flat hcs, hv⟩
    ·cases hv
   ·cases hv
  ·cases hv
  ·cases hv
  ·cases hv
  ·simp only [Option.bind_eq_some_iff] at hv ⊢
   obtain ⟨a', ha', b', hb', hv⟩ := hv
   exact ⟨a', hl _ _ ha', b', hl _ _ hb', hv⟩
  ·simp only [Option.bind_eq_some_iff] at hv ⊢
   obtain ⟨a', ha', hv⟩ := hv
   exact ⟨a', ih _ _ ha _ _ ha', hv⟩
  ·simp only [Option.bind_eq_some_iff] at hv ⊢
   obtain ⟨a', ha', hv⟩ := hv
   exact ⟨a', hl _ _ ha', hv⟩
  ·simp only [Option.bind_eq_some_iff] at hv ⊢
   obtain ⟨a', ha', hv⟩ := hv
   exact ⟨a', hl _ _ ha', hv⟩
  ·exact hv
theorem viewArgs_above {h H : Heap} (ha : Above h H) : ∀ (l l' : List V), viewArgs h l = some l' → viewArgs H l = some l'
 | [], l', hv => by simpa [viewArgs] using hv
 | v :: r, l', hv => by
  simp only [viewArgs, Option.bind_eq_some_iff] at hv ⊢
  obtain ⟨v', h1, r', h2, h3⟩ := hv
  refine ⟨v', ?_, r', viewArgs_above ha r r' h2, h3⟩
  split at h1
  ·rename_i hf; rw [if_pos hf]; exact h1
  ·rename_i hf; rw [if_neg hf]; exact view_above 50 _ _ ha _ _ h1
section
variable {E : Env} {rec : Rec} {h h' H : Heap} {f : FuncId} {args : List V} {v : V} {p : Array Oper → Bool}
theorem call_r (hk : E.known f = none) (hm : E.mode f = .pure) (hc : callV E rec f args h = some (v, h')) : h' = h ∧ ∀ H, Above h H → callV E rec f args H = some (v, H) := by
 unfold callV at hc ⊢
 rw [hk, hm] at hc ⊢
 simp only [Option.bind_eq_some_iff, Option.map_eq_some_iff, Prod.mk.injEq] at hc ⊢
 obtain ⟨args1, hv, r1, hp, rfl, rfl⟩ := hc
 exact ⟨rfl, fun H hA => ⟨args1, viewArgs_above hA _ _ hv, r1, hp, rfl, trivial⟩⟩
theorem call_pure_sound {m : Nat} (hS : Sound E.P p rec m) (hE : FnOk E p) (hk : E.known f = none) (hm : E.mode f = .pure) (hc : callV E rec f args h = some (v, h')) {ok : Nat → Nat → Prop} {B : Bd} {w : World} {args' : List Value}
  {R : Ending → World → Prop} (hh : HR ok w B p h) (ha : VRelL ok w B args args') (hR : ∀ ok' w' c, After p ok B w h.length h v ok' B w' c → R (.returned c) w') : CallsIn Fence.wide 0 E.P f args'.toArray w R := by
 unfold callV at hc
 rw [hk, hm] at hc
 simp only [Option.bind_eq_some_iff, Option.map_eq_some_iff, Prod.mk.injEq] at hc
 obtain ⟨args1, hv, r1, hp, rfl, rfl⟩ := hc
 unfold pureV at hp
 simp only [Option.bind_eq_some_iff] at hp
 obtain ⟨⟨r0, h1⟩, hb, hp⟩ := hp
 dsimp only at hp
 split at hp
 ·simp only [Option.map_eq_some_iff] at hp
  obtain ⟨r', hfr, rfl⟩ := hp
  exact inner_strip (body_sound hS hE hb) hh ha hv fun ok2 B2 w' v hi => hR _ _ _ (pure_sound hi hh (by rw [Heap.top_setTop (by have := hi.heap.pos; rw [Heap.length_setTop] at this; exact this)]; exact hfr))
 ·rename_i hl
  simp only [Option.map_eq_some_iff] at hp
  obtain ⟨r', hfr, rfl⟩ := hp
  exact inner_of (body_sound hS hE hb) hh ha hv (by simpa using hl) fun ok2 B2 w' v hi => hR _ _ _ (pure_sound hi hh hfr)
def stripIf (c : Bool) (x : V × Heap) : V × Heap := if c then (V.strip x.1, x.2.setTop (x.2.top.map stripBlk)) else x
theorem inner_if {P : Program} {args1 : List V} {r : V} {h1 : Heap} {ok : Nat → Nat → Prop} {B : Bd} {w : World} (hc : CallS P p f args1 [[]] r h1) (hh : HR ok w B p h) {args' : List Value} (ha : VRelL ok w B args args')
  (hv : viewArgs h args = some args1) {R : Ending → World → Prop}
  (hR : ∀ ok2 B2 w' v, Inner p ok w (stripIf (!V.flatL args && !V.own h1 r) (r, h1)).2 (stripIf (!V.flatL args && !V.own h1 r) (r, h1)).1 ok2 B2 w' v → R (.returned v) w') : CallsIn Fence.wide 0 P f args'.toArray w R := by
 cases hl : (!V.flatL args && !V.own h1 r) with
 | true => rw [hl] at hR; exact inner_strip hc hh ha hv hR
 | false => rw [hl] at hR; exact inner_of hc hh ha hv hl hR
theorem call_a (hk : E.known f = none) (hm : E.mode f = .own) (hc : callV E rec f args h = some (v, h')) : ∃ args1 r0 h1, viewArgs h args = some args1 ∧ bodyV E rec f args1 [[]] = some (r0, h1) ∧
  (v = V.out h.top.length (stripIf (!V.flatL args && !V.own h1 r0) (r0, h1)).1 ∧ h' = h.setTop (h.top ++ (stripIf (!V.flatL args && !V.own h1 r0) (r0, h1)).2.top.map (outBlk h.top.length))) := by
 unfold callV at hc
 rw [hk, hm] at hc
 simp only [Option.bind_eq_some_iff] at hc
 obtain ⟨args1, hv, ⟨r0, h1⟩, hb, hp⟩ := hc
 dsimp only at hp
 refine ⟨args1, r0, h1, hv, hb, ?_⟩
 split at hp
 ·rename_i hl
  simp only [Option.some.injEq, Prod.mk.injEq] at hp
  obtain ⟨rfl, rfl⟩ := hp
  rw [hl]
  refine ⟨rfl, ?_⟩
  show _ = h.setTop (h.top ++ (h1.setTop (h1.top.map stripBlk)).top.map (outBlk h.top.length))
  rw [Heap.top_mapTop]
 ·rename_i hl
  simp only [Option.some.injEq, Prod.mk.injEq] at hp
  obtain ⟨rfl, rfl⟩ := hp
  have hl' : (!V.flatL args && !V.own h1 r0) = false := by simpa using hl
  rw [hl']
  exact ⟨rfl, rfl⟩
end
def Bd.graftAt (B B2 : Bd) (k n : Nat) : Bd := fun d j => if d = 0 ∧ k ≤ j ∧ j < k + n then (B2 0 (j - k)).still else B d j
theorem graft_at {ok ok2 : Nat → Nat → Prop} {w w' : World} {B B' : Bd} {p : Array Oper → Bool} {H h1 : Heap} {r : V} {v : Value} {k : Nat} (hi : Inner p ok w h1 r ok2 B' w' v) (hh : HR ok w B p H)
  (hout : ∀ i, i < h1.top.length → B 0 (k + i) = .out) (hget : ∀ i b, (h1.top.map (outBlk k))[i]? = some b → H.get 0 (k + i) = some b) :
  After p ok B w H.length H (V.out k r) ok2 (B.graftAt B' k h1.top.length) w' v := by
 have hokin : ∀ b n, ok b n → ok2 b n := fun b n hb => (hi.okEq b n (hh.okn b n hb).1).2 hb
 have hsame : ∀ d j b, (B d j).blk = some b → w'.heap[b]? = w.heap[b]? := fun d j b hb => hi.same b (hh.lt d j b hb)
 have hO : OutB k B' (B.graftAt B' k h1.top.length) := by
  refine ⟨fun j => ?_, fun d j => .inl (hi.up d j)⟩
  by_cases hj : j < h1.top.length
  ·have : B.graftAt B' k h1.top.length 0 (k + j) = (B' 0 j).still := by
    simp only [Bd.graftAt]; rw [if_pos ⟨trivial, by omega, by omega⟩, Nat.add_sub_cancel_left]
   rw [this]
   rcases Ent.still_cases (B' 0 j) with h | ⟨l, h1, h2⟩
   ·exact .inr (.inl h)
   ·exact .inr (.inr ⟨l, h1, h2⟩)
  ·exact .inl (hi.heap.top_lt (by omega))
 have hBm : ∀ d j, B d j = .out ∨ B.graftAt B' k h1.top.length d j = B d j := by
  intro d j
  by_cases hc : d = 0 ∧ k ≤ j ∧ j < k + h1.top.length
  ·obtain ⟨rfl, hj, hj2⟩ := hc
   have := hout (j - k) (by omega)
   rw [show k + (j - k) = j from by omega] at this
   exact .inl this
  ·right; simp only [Bd.graftAt]; rw [if_neg hc]
 have hidx : ∀ d j b, (B.graftAt B' k h1.top.length d j).blk = some b → (d = 0 ∧ k ≤ j ∧ (B' 0 (j - k)).blk = some b) ∨ (¬ (d = 0 ∧ k ≤ j ∧ j < k + h1.top.length) ∧ (B d j).blk = some b) := by
  intro d j b hb
  unfold Bd.graftAt at hb
  split at hb
  ·rename_i hc; exact .inl ⟨hc.1, hc.2.1, Ent.still_blk hb⟩
  ·rename_i hc; exact .inr ⟨hc, hb⟩
 have hw := outer_kept hi hh
 refine ⟨⟨hi.size, hi.os, hi.tape, hi.output, fun b hb _ => hi.same b hb, fun b n hb hlt => ⟨(hi.okEq b n hlt).2 hb, fun _ _ => cell?_of_heap (hi.same b hlt)⟩, fun b n hlt hb => .inl ((hi.okEq b n hlt).1 hb), fun d j => ?_, fun d j b hb hlt => ?_⟩, ⟨hh.pos, fun d j => ?_, fun d j d' j' b hb hb' => ?_, fun d j b hb => ?_, fun b n hb => ⟨(hi.heap.okn b n hb).1, fun d j hm => ?_⟩, hi.heap.gl⟩, out_rel hO _ _ hi.val, rfl⟩
 ·rcases hBm d j with h | h
  ·rw [h]; trivial
  ·rw [h]; exact EntLe.refl _ fun b hb => by simp only [csize, hsame d j b hb]; exact Nat.le_refl _
 ·rcases hidx d j b hb with ⟨_, _, h⟩ | ⟨_, h⟩
  ·have := hi.new _ _ _ h; omega
  ·exact h
 ·by_cases hc : d = 0 ∧ k ≤ j ∧ j < k + h1.top.length
  ·obtain ⟨rfl, hj, hj2⟩ := hc
   have he : B.graftAt B' k h1.top.length 0 j = (B' 0 (j - k)).still := by simp only [Bd.graftAt]; rw [if_pos ⟨trivial, hj, hj2⟩]
   have hb := hi.heap.blk 0 (j - k)
   rw [Heap.get_top hi.heap.pos, Bd.from_zero] at hb
   have hob : (h1.top[j - k]?).map (outBlk k) = H.get 0 j := by
    have hlt : j - k < h1.top.length := by omega
    rw [List.getElem?_eq_getElem hlt]
    have := hget (j - k) (outBlk k h1.top[j - k]) (by rw [List.getElem?_map, List.getElem?_eq_getElem hlt]; rfl)
    rw [show k + (j - k) = j from by omega] at this
    rw [this]; rfl
   rw [he, Bd.from_zero, ← hob]
   exact outBlk_rel hO hb
  ·have he : B.graftAt B' k h1.top.length d j = B d j := by simp only [Bd.graftAt]; rw [if_neg hc]
   rw [he]
   exact ((hw.blk d j).okmono hokin).bmono fun d' j' => hBm (d + d') j'
 ·rcases hidx d j b hb with ⟨rfl, hj, h1⟩ | ⟨hc, h1⟩
  ·rcases hidx d' j' b hb' with ⟨rfl, hj', h2⟩ | ⟨hc', h2⟩
   ·obtain ⟨_, h3⟩ := hi.heap.inj _ _ _ _ b h1 h2
    exact ⟨rfl, by omega⟩
   ·have := hi.new _ _ _ h1; have := hh.lt _ _ _ h2; omega
  ·rcases hidx d' j' b hb' with ⟨rfl, hj', h2⟩ | ⟨hc', h2⟩
   ·have := hi.new _ _ _ h2; have := hh.lt _ _ _ h1; omega
   ·exact hh.inj _ _ _ _ b h1 h2
 ·rcases hidx d j b hb with ⟨_, _, h⟩ | ⟨_, h⟩
  ·exact hi.heap.lt _ _ _ h
  ·exact Nat.lt_of_lt_of_le (hh.lt _ _ _ h) hi.size
 ·unfold Bd.graftAt at hm ⊢
  split at hm
  ·rename_i hc
   rw [if_pos hc]; exact Ent.still_pre ((hi.heap.okn b n hb).2 _ _ (Ent.still_blk hm))
  ·rename_i hc
   rw [if_neg hc]
   have hlt := hh.lt d j b hm
   exact (hh.okn b n ((hi.okEq b n hlt).1 hb)).2 d j hm
section
variable {E : Env} {rec : Rec} {p : Array Oper → Bool} {T : List V}
theorem kindT_cases (T : List V) (o : Op) : (∃ f args ts, o = .call { callee := .value f, args, argTypes := ts }) ∨ kindT E T o = kindOf E.P o := by
 unfold kindT
 split
 ·exact .inl ⟨_, _, _, rfl⟩
 ·exact .inr rfl
theorem kindT_call {f : Operand} {args : Array Operand} {ts : Array TypeId} : (∃ g first captured, evalT T f = .func (.func g) first captured ∧ E.known g = none ∧
   ((kindT E T (.call { callee := .value f, args, argTypes := ts }) = .r ∧ E.mode g = .pure) ∨ (kindT E T (.call { callee := .value f, args, argTypes := ts }) = .a ∧ E.mode g = .own))) ∨
  kindT E T (.call { callee := .value f, args, argTypes := ts }) = .e := by
 simp only [kindT]
 split
 ·rename_i g first captured hf
  cases hk : E.known g with
  | some x => exact .inr rfl
  | none => cases hm : E.mode g <;> first | exact .inr rfl | exact .inl ⟨g, first, captured, hf, hk, by simp [hm]⟩
 ·exact .inr rfl
theorem operV_call {h : Heap} {f : Operand} {args : Array Operand} {ts : Array TypeId} {g : FuncId} {first captured : List V} (hf : evalT T f = .func (.func g) first captured) :
  operV E rec T h (.call { callee := .value f, args, argTypes := ts }) = callV E rec g (first ++ args.toList.map (evalT T) ++ captured) h := by
 simp only [operV, applyV, hf]
theorem operV_opV {h : Heap} {o : Op} (hk : kindOf E.P o ≠ .e) : operV E rec T h o = opV E (evalT T) h o := by
 unfold operV
 split
 ·simp [kindOf] at hk
 ·simp [kindOf] at hk
 ·rfl
theorem oper_n {h h' : Heap} {o : Op} {v : V} (hk : kindT E T o = .n) (hop : operV E rec T h o = some (v, h')) : h' = h ∧ ∀ H, operV E rec T H o = some (v, H) := by
 rcases kindT_cases (E := E) T o with ⟨f, args, ts, rfl⟩ | he
 ·rcases kindT_call (E := E) (T := T) (f := f) (args := args) (ts := ts) with ⟨_, _, _, _, _, ⟨h, _⟩ | ⟨h, _⟩⟩ | h <;> rw [h] at hk <;> cases hk
 ·rw [he] at hk
  have hne : kindOf E.P o ≠ .e := by rw [hk]; simp
  rw [operV_opV hne] at hop
  obtain ⟨h1, h2⟩ := op_n hk hop
  exact ⟨h1, fun H => by rw [operV_opV hne]; exact h2 H⟩
theorem oper_r {h h' : Heap} {o : Op} {v : V} (hk : kindT E T o = .r) (hop : operV E rec T h o = some (v, h')) : h' = h ∧ ∀ H, Above h H → operV E rec T H o = some (v, H) := by
 rcases kindT_cases (E := E) T o with ⟨f, args, ts, rfl⟩ | he
 ·rcases kindT_call (E := E) (T := T) (f := f) (args := args) (ts := ts) with ⟨g, first, captured, hf, h1, ⟨_, h2⟩ | ⟨h, _⟩⟩ | h
  ·rw [operV_call hf] at hop
   obtain ⟨g1, g2⟩ := call_r h1 h2 hop
   exact ⟨g1, fun H hA => by rw [operV_call hf]; exact g2 H hA⟩
  ·rw [h] at hk; cases hk
  ·rw [h] at hk; cases hk
 ·rw [he] at hk
  have hne : kindOf E.P o ≠ .e := by rw [hk]; simp
  rw [operV_opV hne] at hop
  obtain ⟨h1, h2⟩ := op_r hk hop
  exact ⟨h1, fun H hA => by rw [operV_opV hne]; exact h2 H hA⟩
theorem enter_value {F : Fence} (hF : FW F) {o : Oper} {a : Act} {f : Operand} {args : Array Operand} {ts : Array TypeId} (heq : o.op = .call { callee := .value f, args, argTypes := ts }) {g : FuncId} (hent : Enters E g) {first captured : List V}
  (hf : evalT T f = .func (.func g) first captured) {ok : Nat → Nat → Prop} {B : Bd} {w : World} (ht : VRelL ok w B T a.tmps.toList) {next : Act → World → Prop} {Q : Exit → Act → World → Prop}
  (hc : ∀ args', VRelL ok w B (first ++ args.toList.map (evalT T) ++ captured) args' → CallsIn Fence.wide 0 E.P g args'.toArray w fun | .returned v, w'' => next (a.put o.dst v) w'' | .panicked chain, w'' => Q (.panic chain) a w'' | .outgrown, _ => LetsOut Q) :
  o.wpIn F 0 E.P a w next Q := by
 have hρ : ∀ x, VRel ok w B (evalT T x) (a.eval x) := fun x => evalT_rel ht x
 have hd : ∀ c, o.op ≠ .defer c := fun c e => by rw [heq] at e; cases e
 have hargs : VRelL ok w B (args.toList.map (evalT T)) (args.map a.eval).toList := by rw [Array.toList_map]; exact mapRel hρ _
 have hfv := hρ f
 rw [hf] at hfv
 simp only [VRel] at hfv
 obtain ⟨a', b', hfv, h1, h2⟩ := hfv
 have hall : VRelL ok w B (first ++ args.toList.map (evalT T) ++ captured) (a' ++ (args.map a.eval).toList ++ b') := (h1.append hargs).append h2
 refine hF.enter hd (w1 := w) (f := g) (args := (a' ++ (args.map a.eval).toList ++ b').toArray) ?_ (hc _ hall)
 have := hent.run (a' ++ (args.map a.eval).toList ++ b').toArray w
 simp only [execOp, heq, resolve, hfv, Deferred.ofValue, invoke, Sem.run_bind, Sem.run_pure, Result.andThen_ok]
 rw [← this]
 congr 2
 apply Array.ext'
 simp
theorem wp_nr {m : Nat} (hS : Sound E.P p rec m) (hq : EqOk E) (hE : FnOk E p) (hKI : KnownIn E) {F : Fence} (hF : FW F) {o : Oper} {a : Act} {v : V} {H : Heap} {ok : Nat → Nat → Prop} {B : Bd} {w : World}
  (hk : kindT E T o.op = .n ∨ kindT E T o.op = .r) (hop : operV E rec T H o.op = some (v, H)) (hh : HR ok w B p H) (ht : VRelL ok w B T a.tmps.toList) {next : Act → World → Prop} {Q : Exit → Act → World → Prop}
  (hR : ∀ ok' w' c, Ext ok B w ok' B w' → HR ok' w' B p H → VRel ok' w' B v c → next (a.put o.dst c) w') : o.wpIn F 0 E.P a w next Q := by
 have hρ : ∀ x, VRel ok w B (evalT T x) (a.eval x) := fun x => evalT_rel ht x
 rcases kindT_cases (E := E) T o.op with ⟨f, args, ts, heq⟩ | he
 ·rw [heq] at hk hop
  rcases kindT_call (E := E) (T := T) (f := f) (args := args) (ts := ts) with ⟨g, first, captured, hf, h1, ⟨_, h2⟩ | ⟨h, _⟩⟩ | h
  ·rw [operV_call hf] at hop
   exact enter_value hF heq (call_enters hE hKI hop) hf ht fun args' hargs => call_pure_sound hS hE h1 h2 hop hh hargs fun ok' w' c hA => hR ok' w' c hA.ext hA.heap hA.val
  ·rw [h] at hk; simp at hk
  ·rw [h] at hk; simp at hk
 ·rw [he] at hk
  have hne : kindOf E.P o.op ≠ .e := by rcases hk with h | h <;> rw [h] <;> simp
  have hd : ∀ c, o.op ≠ .defer c := fun c e => by rw [operV_opV hne, e] at hop; simp [opV] at hop
  rw [operV_opV hne] at hop
  obtain ⟨n, c, hrun, hg, hr⟩ := op_pure hq hh hρ hk hop
  refine ⟨fun f _ => hF.fn f, ?_⟩
  rw [Oper.semAt_eq _ _ _ hd, hrun]
  have := hR ok w c (Ext.refl ok B w) hh hr
  rcases hg with rfl | ⟨rfl, rfl⟩
  ·exact this
  ·exact this
theorem oper_a {m : Nat} (hS : Sound E.P p rec m) (hq : EqOk E) (hE : FnOk E p) (hKI : KnownIn E) {o : Oper} {h h' : Heap} {v : V} (hk : kindT E T o.op = .a) (hop : operV E rec T h o.op = some (v, h')) :
  ∃ blks : List Blk, h' = h.setTop (h.top ++ blks) ∧ ∀ (F : Fence) (H : Heap) (ok : Nat → Nat → Prop) (B : Bd) (w : World) (a : Act) (next : Act → World → Prop) (Q : Exit → Act → World → Prop), FW F → Above h H → HR ok w B p H →
   (∀ i, i < blks.length → B 0 (h.top.length + i) = .out) → (∀ i b, blks[i]? = some b → H.get 0 (h.top.length + i) = some b) → VRelL ok w B T a.tmps.toList →
   (∀ ok' B' w' c, Ext ok B w ok' B' w' → HR ok' w' B' p H → VRel ok' w' B' v c → (∀ d' j', ¬ (d' = 0 ∧ h.top.length ≤ j' ∧ j' < h.top.length + blks.length) → B' d' j' = B d' j') → next (a.put o.dst c) w') → o.wpIn F 0 E.P a w next Q := by
 rcases kindT_cases (E := E) T o.op with ⟨f, args, ts, heq⟩ | he
 ·rw [heq] at hk hop
  rcases kindT_call (E := E) (T := T) (f := f) (args := args) (ts := ts) with ⟨g, first, captured, hf, h1, ⟨h, _⟩ | ⟨_, h2⟩⟩ | h
  ·rw [h] at hk; cases hk
  ·rw [operV_call hf] at hop
   have hent := call_enters hE hKI hop
   obtain ⟨args1, r0, hb0, hv, hb, hl⟩ := call_a h1 h2 hop
   obtain ⟨rfl, rfl⟩ := hl
   generalize hst : stripIf (!V.flatL (first ++ args.toList.map (evalT T) ++ captured) && !V.own hb0 r0) (r0, hb0) = st
   obtain ⟨rs, hb1⟩ := st
   refine ⟨hb1.top.map (outBlk h.top.length), rfl, fun F H ok B w a next Q hF hA hh hout hget ht hR => ?_⟩
   refine enter_value hF heq hent hf ht fun args' hargs => inner_if (body_sound hS hE hb) hh hargs (viewArgs_above hA _ _ hv) fun ok2 B2 w' c hi => ?_
   rw [hst] at hi
   have hg := graft_at (k := h.top.length) hi hh (fun i hi' => hout i (by simpa using hi')) hget
   refine hR ok2 _ w' c hg.ext hg.heap hg.val fun d' j' hq' => ?_
   simp only [Bd.graftAt]
   rw [if_neg (by simpa using hq')]
  ·rw [h] at hk; cases hk
 ·rw [he] at hk
  have hne : kindOf E.P o.op ≠ .e := by rw [hk]; simp
  rw [operV_opV hne] at hop
  have hd : ∀ c, o.op ≠ .defer c := fun c e => by rw [e] at hop; simp [opV] at hop
  obtain ⟨vf, blk, hv1, hv2, hA0⟩ := op_a hk hop
  refine ⟨[blk], hv2, fun F H ok B w a next Q hF hA hh hout hget ht hR => ?_⟩
  have hρ : ∀ x, VRel ok w B (evalT T x) (a.eval x) := fun x => evalT_rel ht x
  obtain ⟨sm, hse, hal⟩ := hA0 p ok B w a.eval hρ
  obtain ⟨c, w', B', hrun, hx', hh', hvr, hkeep⟩ := hal H h.top.length hh (hout 0 (by simp)) (hget 0 blk rfl)
  refine ⟨fun f _ => hF.fn f, ?_⟩
  rw [Oper.semAt_eq _ _ _ hd, hse]
  have hrun' : (do pure (.value (← sm)) : Sem Next).run E.P w = .ok (.value c) w' := by simp [hrun]
  rw [hrun']
  refine hR ok B' w' c hx' hh' (by rw [hv1]; exact hvr) fun d' j' hq' => hkeep d' j' fun e => hq' ⟨e.1, by omega, by rw [e.2]; simp⟩
theorem oper_alloc {o : Oper} {h h' : Heap} {v : V} {elem : TypeId} (ho : o.op = .alloc elem) (hop : operV E rec T h o.op = some (v, h')) :
  ∃ blk : Blk, h' = h.setTop (h.top ++ [blk]) ∧ ∀ (F : Fence) (H : Heap) (ok : Nat → Nat → Prop) (B : Bd) (w : World) (a : Act) (next : Act → World → Prop) (Q : Exit → Act → World → Prop), FW F → HR ok w B p H →
   B 0 h.top.length = .out → H.get 0 h.top.length = some blk → VRelL ok w B T a.tmps.toList →
   (∀ ok' B' w' c, Ext ok B w ok' B' w' → HR ok' w' B' p H → VRel ok' w' B' v c → (∀ d' j', ¬ (d' = 0 ∧ j' = h.top.length) → B' d' j' = B d' j') → next (a.put o.dst c) w') → o.wpIn F 0 E.P a w next Q := by
 have hk : kindOf E.P o.op = .a := by rw [ho]; rfl
 have hne : kindOf E.P o.op ≠ .e := by rw [hk]; simp
 rw [operV_opV hne] at hop
 have hd : ∀ c, o.op ≠ .defer c := fun c e => by rw [e] at ho; cases ho
 obtain ⟨vf, blk, hv1, hv2, hA0⟩ := op_a hk hop
 refine ⟨blk, hv2, fun F H ok B w a next Q hF hh hout hget ht hR => ?_⟩
 have hρ : ∀ x, VRel ok w B (evalT T x) (a.eval x) := fun x => evalT_rel ht x
 obtain ⟨sm, hse, hal⟩ := hA0 p ok B w a.eval hρ
 obtain ⟨c, w', B', hrun, hx', hh', hvr, hkeep⟩ := hal H h.top.length hh hout hget
 refine ⟨fun f _ => hF.fn f, ?_⟩
 rw [Oper.semAt_eq _ _ _ hd, hse]
 have hrun' : (do pure (.value (← sm)) : Sem Next).run E.P w = .ok (.value c) w' := by simp [hrun]
 rw [hrun']
 exact hR ok B' w' c hx' hh' (by rw [hv1]; exact hvr) hkeep
end
end Go.Sim
end
section
namespace Go.Sim
open Go
section
variable {E : Env} {rec : Rec} {h : Heap}
theorem partsV_congr {ρ ρ' : Operand → V} : ∀ (l : List (Nat × Operand)), (∀ x ∈ l.map (·.2), ρ x = ρ' x) → partsV ρ l = partsV ρ' l
 | [], _ => rfl
 | (i, x) :: r, hp => by
  simp only [partsV]
  rw [hp x (by simp), partsV_congr r fun y hy => hp y (by simp at hy ⊢; exact .inr hy)]
theorem map_congr_ops {ρ ρ' : Operand → V} {l : List Operand} (h : ∀ x ∈ l, ρ x = ρ' x) : l.map ρ = l.map ρ' := List.map_congr_left h
theorem opV_congr {ρ ρ' : Operand → V} (o : Op) (h1 : ∀ x ∈ o.operands, ρ x = ρ' x) : opV E ρ h o = opV E ρ' h o := by
 cases o <;> simp only [Op.operands] at h1 <;> simp only [opV]
 case build t ps => rw [partsV_congr ps.toList fun x hx => h1 x (by simpa using hx)]
 case buildSlice t n ps => rw [partsV_congr ps.toList fun x hx => h1 x (by simpa using hx)]
 case makeFunc fn first captured =>
  rw [map_congr_ops (l := first.toList) fun x hx => h1 x (by simp at hx ⊢; exact .inl hx), map_congr_ops (l := captured.toList) fun x hx => h1 x (by simp at hx ⊢; exact .inr hx)]
 case slice t x lo hi mx => cases lo <;> cases hi <;> cases mx <;> simp_all
 case call c =>
  obtain ⟨callee, args, ats⟩ := c
  cases callee with
  | builtin b => simp only; rw [map_congr_ops (l := args.toList) fun x hx => h1 x (by simp [Call.operands]; simpa using hx)]
  | value f => rfl
  | invoke r n => rfl
 all_goals (first | rfl | (simp_all; done))
theorem operV_congr {T T' : List V} (o : Op) (h1 : ∀ x ∈ o.operands, evalT T x = evalT T' x) : operV E rec T h o = operV E rec T' h o := by
 unfold operV
 split
 ·rename_i f args ts
  simp only [Op.operands, Call.operands] at h1
  rw [h1 f (by simp), map_congr_ops (l := args.toList) fun x hx => h1 x (by simp at hx ⊢; exact .inr hx)]
 ·rename_i recv name args ts
  simp only [Op.operands, Call.operands] at h1
  rw [h1 recv (by simp), map_congr_ops (l := args.toList) fun x hx => h1 x (by simp at hx ⊢; exact .inr hx)]
 ·exact opV_congr _ h1
theorem evalT_congr {ops : Array Oper} {o : Oper} {T T' : List V} (h1 : ∀ t ∈ o.looksAt ops, T.getD t .poison = T'.getD t .poison) : ∀ x ∈ o.op.operands, evalT T x = evalT T' x := by
 intro x hx
 cases x with
 | tmp t =>
  simp only [evalT]
  exact h1 t (List.mem_append_left _ (List.mem_filterMap.2 ⟨.tmp t, by simpa using hx, rfl⟩))
 | _ => rfl
def valV (E : Env) (rec : Rec) (ops : Array Oper) (o : Oper) (tmps : List V) (h : Heap) : Option (V × Heap) :=
 (wantedV ops tmps o).bind fun b => if b then operV E rec tmps h o.op else some (V.undef, h)
theorem opsV_cons {ops : Array Oper} {o : Oper} {r : List Oper} {s : St} : opsV E rec ops (o :: r) s = (valV E rec ops o s.tmps s.heap).bind fun x => opsV E rec ops r { s with tmps := putT s.tmps o.dst x.1, heap := x.2 } := by
 simp only [opsV, valV]
 cases wantedV ops s.tmps o with
 | none => rfl
 | some b => cases b <;> simp
theorem wanted_congr {ops : Array Oper} {o : Oper} {T T' : List V} (hl : T.length = T'.length) (h1 : ∀ t ∈ o.looksAt ops, T.getD t .poison = T'.getD t .poison) : wantedV ops T o = wantedV ops T' o := by
 unfold wantedV
 split
 ·rfl
 ·rename_i j want hg
  have : ((ops[j]?).bind (·.dst)).bind (T[·]?) = ((ops[j]?).bind (·.dst)).bind (T'[·]?) := by
   cases hd : (ops[j]?).bind (·.dst) with
   | none => rfl
   | some d =>
    simp only [Option.bind_some]
    have := h1 d (by unfold Oper.looksAt; rw [hg]; simp only; rw [hd]; simp)
    by_cases hlt : d < T.length
    ·have hlt' : d < T'.length := hl ▸ hlt
     rw [List.getElem?_eq_getElem hlt, List.getElem?_eq_getElem hlt']
     rw [List.getD_eq_getElem?_getD, List.getD_eq_getElem?_getD, List.getElem?_eq_getElem hlt, List.getElem?_eq_getElem hlt'] at this
     simpa using this
    ·have hge : T.length ≤ d := Nat.le_of_not_lt hlt
     have hge' : T'.length ≤ d := hl ▸ hge
     rw [List.getElem?_eq_none hge, List.getElem?_eq_none hge']
  rw [this]
theorem valV_congr {ops : Array Oper} {o : Oper} {T T' : List V} (hl : T.length = T'.length) (h1 : ∀ t ∈ o.looksAt ops, T.getD t .poison = T'.getD t .poison) : valV E rec ops o T h = valV E rec ops o T' h := by
 unfold valV
 rw [wanted_congr hl h1, operV_congr o.op (evalT_congr h1)]
end
structure Trace (E : Env) (rec : Rec) (ops : Array Oper) (s s' : St) where
 val : Nat → V
 T : Nat → List V
 hp : Nat → Heap
 T0 : T 0 = s.tmps
 h0 : hp 0 = s.heap
 Tn : T ops.size = s'.tmps
 hn : hp ops.size = s'.heap
 fn : s'.fn = s.fn
 step : ∀ i o, ops[i]? = some o → valV E rec ops o (T i) (hp i) = some (val i, hp (i + 1)) ∧ T (i + 1) = putT (T i) o.dst (val i)
theorem trace_list {E : Env} {rec : Rec} {ops : Array Oper} : ∀ (l : List Oper) (s s' : St), opsV E rec ops l s = some s' →
  ∃ (val : Nat → V) (T : Nat → List V) (hp : Nat → Heap), T 0 = s.tmps ∧ hp 0 = s.heap ∧ T l.length = s'.tmps ∧ hp l.length = s'.heap ∧ s'.fn = s.fn ∧
   ∀ i o, l[i]? = some o → valV E rec ops o (T i) (hp i) = some (val i, hp (i + 1)) ∧ T (i + 1) = putT (T i) o.dst (val i)
 | [], s, s', h => by
  simp only [opsV, Option.some.injEq] at h; subst h
  exact ⟨fun _ => .poison, fun _ => s.tmps, fun _ => s.heap, rfl, rfl, rfl, rfl, rfl, fun i o h => by simp at h⟩
 | o :: r, s, s', h => by
  rw [opsV_cons] at h
  simp only [Option.bind_eq_some_iff] at h
  obtain ⟨⟨v, h1⟩, hv, h⟩ := h
  obtain ⟨val, T, hp, e1, e2, e3, e4, e5, e6⟩ := trace_list r _ s' h
  refine ⟨fun i => if i = 0 then v else val (i - 1), fun i => if i = 0 then s.tmps else T (i - 1), fun i => if i = 0 then s.heap else hp (i - 1), rfl, rfl, by simpa using e3, by simpa using e4, e5, ?_⟩
  intro i o' ho
  cases i with
  | zero =>
   simp at ho; subst ho
   simp only [if_true, Nat.zero_add, Nat.one_ne_zero, if_false, Nat.sub_self]
   rw [e1, e2]
   exact ⟨hv, rfl⟩
  | succ i =>
   simp at ho
   have := e6 i o' ho
   simpa using this
noncomputable def Trace.of {E : Env} {rec : Rec} {ops : Array Oper} {s s' : St} (h : opsV E rec ops ops.toList s = some s') : Trace E rec ops s s' :=
 let x := trace_list ops.toList s s' h
 { val := x.choose
   T := x.choose_spec.choose
   hp := x.choose_spec.choose_spec.choose
   T0 := x.choose_spec.choose_spec.choose_spec.1
   h0 := x.choose_spec.choose_spec.choose_spec.2.1
   Tn := by have := x.choose_spec.choose_spec.choose_spec.2.2.1; simpa using this
   hn := by have := x.choose_spec.choose_spec.choose_spec.2.2.2.1; simpa using this
   fn := x.choose_spec.choose_spec.choose_spec.2.2.2.2.1
   step := fun i o ho => x.choose_spec.choose_spec.choose_spec.2.2.2.2.2 i o (by rw [Array.getElem?_toList]; exact ho) }
end Go.Sim
end
section
namespace Go.Sim
open Go
section
variable {E : Env} {ops : Array Oper}
def Lst (listed : Array Bool) (i : Nat) : Prop := listed[i]? = some true
def Closed (ops : Array Oper) (listed : Array Bool) : Prop := ∀ i o, Lst listed i → ops[i]? = some o → ∀ e ∈ o.after, Region.binds .any e = true → Lst listed e.on
theorem reach_listed {listed : Array Bool} (hc : Closed ops listed) : ∀ (f i j : Nat), (∀ o, ops[i]? = some o → ∀ e ∈ o.after, Region.binds .any e = true → Lst listed e.on) → reach ops f i j = true → Lst listed j
 | 0, i, j, _, h => by simp [reach] at h
 | f + 1, i, j, hi, h => by
  simp only [reach] at h
  split at h
  ·cases h
  ·rename_i o ho
   rw [Array.any_eq_true] at h
   obtain ⟨k, hk, h⟩ := h
   simp only [Bool.and_eq_true, Bool.or_eq_true, beq_iff_eq] at h
   have hl := hi o ho o.after[k] (Array.getElem_mem hk) h.1
   rcases h.2 with h | h
   ·rw [← h]; exact hl
   ·exact reach_listed hc f _ j (fun o' ho' e he hb => hc _ o' hl ho' e he hb) h
theorem regOkD_at {T : List V} (h : regOkD E ops T = true) {i : Nat} {o : Oper} (ho : ops[i]? = some o) : edgesOk ops = true ∧ stabC ops i o.op = true ∧ ∀ j q, j < i → ops[j]? = some q →
  reach ops 8 i j = true ∨ (confS ops q o = false ∧ (confK (kindT E T q.op) (kindT E T o.op) = false ∨ disj E T ops i j o q = true ∨ disj E T ops j i q o = true)) := by
 have hi : i < ops.size := (Array.getElem?_eq_some_iff.1 ho).1
 simp only [regOkD, Bool.and_eq_true, List.all_eq_true, List.mem_range] at h
 have := h.2 i hi
 rw [ho] at this
 simp only [Bool.and_eq_true, List.all_eq_true, List.mem_range] at this
 obtain ⟨h2, h3⟩ := this
 refine ⟨h.1, h2, fun j q hj hq => ?_⟩
 have h4 := h3 j hj
 rw [hq] at h4
 simp only [Bool.or_eq_true, Bool.and_eq_true, Bool.not_eq_true'] at h4
 rcases h4 with ⟨h5, (h6 | h6) | h6⟩ | h4
 ·exact .inr ⟨h5, .inl h6⟩
 ·exact .inr ⟨h5, .inr (.inl h6)⟩
 ·exact .inr ⟨h5, .inr (.inr h6)⟩
 ·exact .inl h4
theorem predM_bit {md : Region.Mode} : ∀ {l : List Edge} {e : Edge}, e ∈ l → Region.binds md e = true → (predM md l).testBit e.on = true
 | x :: r, e, he, hb => by
  unfold predM
  rcases List.mem_cons.1 he with rfl | he
  ·rw [if_pos hb]
   show (Nat.lor (Nat.shiftLeft 1 e.on) _).testBit e.on = true
   rw [show Nat.lor (Nat.shiftLeft 1 e.on) (predM md r) = (1 <<< e.on) ||| predM md r from rfl, Nat.testBit_or, Nat.testBit_shiftLeft]
   simp
  ·have ih := predM_bit he hb
   split
   ·rw [show Nat.lor (Nat.shiftLeft 1 x.on) (predM md r) = (1 <<< x.on) ||| predM md r from rfl, Nat.testBit_or, ih, Bool.or_true]
   ·exact ih
def Aside (md : Region.Mode) (ops : Array Oper) (D : Nat) : Prop := ∃ (r : Nat → Nat) (N : Nat), (∀ i, D.testBit i = true → r i < N ∧ i < ops.size) ∧
 ∀ i o, D.testBit i = true → ops[i]? = some o → ∀ e ∈ o.after, Region.binds md e = true → D.testBit e.on = true ∧ r e.on < r i
theorem Aside.scan {md : Region.Mode} {ops : Array Oper} : ∀ (l : List Oper) (i D : Nat), (∀ k o, l[k]? = some o → ops[i + k]? = some o) → Aside md ops D → Aside md ops (scanM md l i D)
 | [], i, D, _, h => h
 | o :: l, i, D, hl, h => by
  unfold scanM
  refine Aside.scan l (i + 1) _ (fun k o' hk => by rw [show i + 1 + k = i + (k + 1) from by omega]; exact hl (k + 1) o' (by simpa using hk)) ?_
  split
  case isFalse => exact h
  rename_i hp
  have hp := Nat.eq_of_beq_eq_true hp
  have ho := hl 0 o rfl
  rw [Nat.add_zero] at ho
  have hi : i < ops.size := (Array.getElem?_eq_some_iff.1 ho).1
  have hbit : ∀ k, (Nat.lor D (Nat.shiftLeft 1 i)).testBit k = (D.testBit k || decide (k = i)) := fun k => by
   rw [show Nat.lor D (Nat.shiftLeft 1 i) = D ||| (1 <<< i) from rfl, Nat.testBit_or, Nat.testBit_shiftLeft]
   congr 1
   by_cases hk : k = i
   ·subst hk; simp
   ·by_cases hlt : k ≥ i
    ·obtain ⟨d, rfl⟩ : ∃ d, k = i + d := ⟨k - i, by omega⟩
     obtain ⟨d, rfl⟩ : ∃ x, d = x + 1 := ⟨d - 1, by omega⟩
     simp [Nat.testBit_succ]
    ·simp [hk, hlt]
  by_cases hD : D.testBit i = true
  ·have : Nat.lor D (Nat.shiftLeft 1 i) = D := Nat.eq_of_testBit_eq fun k => by
    rw [hbit]
    by_cases hk : k = i
    ·subst hk; rw [hD]; rfl
    ·simp [hk]
   rw [this]; exact h
  ·obtain ⟨r, N, h1, h2⟩ := h
   refine ⟨fun k => if k = i then N else r k, N + 1, fun k hk => ?_, fun k o' hk ho' e he hb => ?_⟩
   ·rw [hbit] at hk
    simp only [Bool.or_eq_true, decide_eq_true_eq] at hk
    by_cases hki : k = i
    ·subst hki; simp only [if_true]; exact ⟨by omega, hi⟩
    ·rcases hk with hk | hk
     ·have := h1 k hk; simp only [if_neg hki]; exact ⟨by omega, this.2⟩
     ·exact absurd hk hki
   ·rw [hbit] at hk ⊢
    simp only [Bool.or_eq_true, decide_eq_true_eq] at hk ⊢
    by_cases hki : k = i
    ·subst hki
     rw [ho] at ho'
     simp only [Option.some.injEq] at ho'; subst ho'
     have hpb := predM_bit (md := md) (Array.mem_toList_iff.2 he) hb
     have hDe : D.testBit e.on = true := by
      rw [← hp] at hpb
      rw [show Nat.land (predM md o.after.toList) D = predM md o.after.toList &&& D from rfl, Nat.testBit_and] at hpb
      simp only [Bool.and_eq_true] at hpb
      exact hpb.2
     have hne : e.on ≠ k := fun h => hD (h ▸ hDe)
     refine ⟨.inl hDe, ?_⟩
     simp only [if_true, if_neg hne]
     exact (h1 _ hDe).1
    ·rcases hk with hk | hk
     ·obtain ⟨g1, g2⟩ := h2 k o' hk ho' e he hb
      have hne : e.on ≠ i := fun h => hD (h ▸ g1)
      exact ⟨.inl g1, by simp only [if_neg hki, if_neg hne]; exact g2⟩
     ·exact absurd hk hki
theorem Aside.topo {md : Region.Mode} {ops : Array Oper} (full : Nat) : ∀ (k D : Nat), Aside md ops D → Aside md ops (topoM md ops.toList full k D)
 | 0, D, h => h
 | k + 1, D, h => by
  unfold topoM
  split
  ·exact h
  ·exact Aside.topo full k _ (Aside.scan ops.toList 0 D (fun k o hk => by rw [Nat.zero_add]; simpa using hk) h)
theorem rank_some {md : Region.Mode} (h : edgesOk ops = true) : ∃ r : Nat → Nat, ∀ i o, ops[i]? = some o → ∀ e ∈ o.after, Region.binds md e = true → e.on < ops.size ∧ r e.on < r i := by
 have rank : ∀ md, rankE md ops = true → ∃ r : Nat → Nat, ∀ i o, ops[i]? = some o → ∀ e ∈ o.after, Region.binds md e = true → e.on < ops.size ∧ r e.on < r i := by
  intro md h
  have hA : Aside md ops (topoM md ops.toList (2 ^ ops.size - 1) ops.size 0) := Aside.topo _ _ _ ⟨fun _ => 0, 0, fun i hi => by simp at hi, fun i o hi => by simp at hi⟩
  rw [Nat.eq_of_beq_eq_true h] at hA
  obtain ⟨r, N, h1, h2⟩ := hA
  refine ⟨r, fun i o ho e he hb => ?_⟩
  have hi : i < ops.size := (Array.getElem?_eq_some_iff.1 ho).1
  obtain ⟨g1, g2⟩ := h2 i o (by rw [Nat.testBit_two_pow_sub_one]; simpa using hi) ho e he hb
  exact ⟨(h1 _ g1).2, g2⟩
 simp only [edgesOk, Bool.or_eq_true, Bool.and_eq_true] at h
 rcases h with h | ⟨h1, h2⟩
 ·refine ⟨id, fun i o ho e he hb => ?_⟩
  have hi : i < ops.size := (Array.getElem?_eq_some_iff.1 ho).1
  simp only [backE, List.all_eq_true, List.mem_range] at h
  have := h i hi
  rw [ho] at this
  have := Array.all_eq_true_iff_forall_mem.1 this e he
  have : e.on < i := by simpa [Nat.blt_eq] using this
  exact ⟨by omega, this⟩
 ·cases md with
  | text => exact rank _ h1
  | gc => exact rank _ h2
  | any =>
   obtain ⟨r, hr⟩ := rank _ h1
   refine ⟨r, fun i o ho e he hb => hr i o ho e he ?_⟩
   unfold Region.binds at hb ⊢
   cases hg : e.ground <;> simp_all
theorem mem_ready {md : Region.Mode} {listed : Array Bool} (hs : listed.size = ops.size) {i : Nat} : i ∈ Region.ready md ops listed ↔ i < ops.size ∧ ¬ Lst listed i ∧ ∀ o, ops[i]? = some o → ∀ e ∈ o.after, Region.binds md e = true → Lst listed e.on := by
 unfold Region.ready
 simp only [List.mem_filter, List.mem_range, Bool.and_eq_true, Bool.not_eq_true']
 constructor
 ·rintro ⟨h1, h2, h3⟩
  have hl : listed[i]? = some (listed[i]'(by omega)) := by simp [hs, h1]
  refine ⟨h1, fun hL => ?_, fun o ho e he hb => ?_⟩
  ·rw [Array.getD_eq_getD_getElem?, hL] at h2; cases h2
  ·rw [ho] at h3
   simp only [Option.map_some, Option.getD_some] at h3
   have := Array.all_eq_true_iff_forall_mem.1 h3 e he
   simp only [hb, Bool.not_true, Bool.false_or] at this
   rw [Array.getD_eq_getD_getElem?] at this
   unfold Lst
   cases hx : listed[e.on]? with
   | none => rw [hx] at this; cases this
   | some b => rw [hx] at this; simp at this; rw [this]
 ·rintro ⟨h1, h2, h3⟩
  refine ⟨h1, ?_, ?_⟩
  ·rw [Array.getD_eq_getD_getElem?]
   have hl : listed[i]? = some (listed[i]'(by omega)) := by simp [hs, h1]
   unfold Lst at h2
   rw [hl] at h2 ⊢
   simpa using h2
  ·have ho : ops[i]? = some ops[i] := by simp [h1]
   rw [ho]
   simp only [Option.map_some, Option.getD_some]
   refine Array.all_eq_true_iff_forall_mem.2 fun e he => ?_
   cases hb : Region.binds md e with
   | false => simp
   | true =>
    have := h3 _ ho e he hb
    rw [Array.getD_eq_getD_getElem?]
    unfold Lst at this
    rw [this]; simp
theorem all_listed {md : Region.Mode} (he : edgesOk ops = true) {listed : Array Bool} (hs : listed.size = ops.size) (hr : Region.ready md ops listed = []) : ∀ i, i < ops.size → Lst listed i := by
 intro i hi
 obtain ⟨r, hr'⟩ := rank_some (md := md) he
 have key : ∀ n i, r i = n → i < ops.size → Lst listed i := by
  intro n
  induction n using Nat.strongRecOn with
  | _ n ih =>
   intro i hn hi
   rcases Classical.em (Lst listed i) with hl | hl
   ·exact hl
   ·exfalso
    have : i ∈ Region.ready md ops listed := (mem_ready hs).2 ⟨hi, hl, fun o ho e he hb => by
     have h2 := hr' i o ho e he hb
     exact ih (r e.on) (by omega) e.on rfl h2.1⟩
    rw [hr] at this; simp at this
 exact key _ i rfl hi
theorem binds_any {md : Region.Mode} {e : Edge} (h : Region.binds .any e = true) : Region.binds md e = true := by
 unfold Region.binds at h ⊢
 cases hg : e.ground <;> simp_all
section
variable {rec : Rec} {s s' : St} (Tr : Trace E rec ops s s')
noncomputable def W (listed : Array Bool) (t : Nat) : Nat → V
 | 0 => s.tmps.getD t .poison
 | i + 1 => match ops[i]? with
  | some o => @ite _ (Lst listed i ∧ o.dst = some t) (Classical.propDecidable _) (Tr.val i) (W listed t i)
  | none => W listed t i
noncomputable def TA (listed : Array Bool) : List V := (List.range s.tmps.length).map fun t => W Tr listed t ops.size
theorem putT_getD (T : List V) (dst : Option Tmp) (v : V) (t : Nat) (ht : t < T.length) : (putT T dst v).getD t .poison = if dst = some t then v else T.getD t .poison := by
 cases dst with
 | none => simp [putT]
 | some d =>
  simp only [putT, Option.some.injEq]
  rw [List.getD_eq_getElem?_getD]
  by_cases hd : d = t
  ·subst hd; rw [List.getElem?_set_self ht, if_pos rfl]; rfl
  ·rw [List.getElem?_set_ne hd, if_neg hd, List.getD_eq_getElem?_getD]
theorem putT_length (T : List V) (dst : Option Tmp) (v : V) : (putT T dst v).length = T.length := by cases dst <;> simp [putT]
theorem T_length : ∀ i, i ≤ ops.size → (Tr.T i).length = s.tmps.length
 | 0, _ => by rw [Tr.T0]
 | i + 1, hi => by
  have ho : ops[i]? = some (ops[i]'(by omega)) := by simp
  rw [(Tr.step i _ ho).2, putT_length]
  exact T_length i (by omega)
theorem W_agree {listed : Array Bool} {t i : Nat} (ht : t < s.tmps.length) (hi : i ≤ ops.size) (hw : ∀ j o, ops[j]? = some o → o.dst = some t → (Lst listed j ↔ j < i)) : W Tr listed t ops.size = (Tr.T i).getD t .poison := by
 have h1 : ∀ m, m ≤ i → W Tr listed t m = (Tr.T m).getD t .poison := by
  intro m
  induction m with
  | zero => intro _; rw [Tr.T0]; rfl
  | succ m ih =>
   intro hm
   have ho : ops[m]? = some (ops[m]'(by omega)) := by simp
   rw [(Tr.step m _ ho).2, putT_getD _ _ _ _ (by rw [T_length Tr m (by omega)]; exact ht)]
   simp only [W, ho]
   by_cases hd : (ops[m]'(by omega)).dst = some t
   ·rw [if_pos ⟨(hw m _ ho hd).2 (by omega), hd⟩, if_pos hd]
   ·rw [if_neg (fun h => hd h.2), if_neg hd]; exact ih (by omega)
 have h2 : ∀ m, i ≤ m → m ≤ ops.size → W Tr listed t m = W Tr listed t i := by
  intro m hm
  induction m with
  | zero => intro _; obtain rfl : i = 0 := by omega
            rfl
  | succ m ih =>
   intro hms
   rcases Nat.lt_or_ge m i with hlt | hge
   ·obtain rfl : i = m + 1 := by omega
    rfl
   ·have ho : ops[m]? = some (ops[m]'(by omega)) := by simp
    simp only [W, ho]
    rw [if_neg (fun h => by have := (hw m _ ho h.2).1 h.1; omega)]
    exact ih hge (by omega)
 rw [h2 ops.size hi (Nat.le_refl _), h1 i (Nat.le_refl _)]
theorem TA_length (listed : Array Bool) : (TA Tr listed).length = s.tmps.length := by simp [TA]
theorem TA_getD (listed : Array Bool) {t : Nat} (ht : t < s.tmps.length) : (TA Tr listed).getD t .poison = W Tr listed t ops.size := by
 unfold TA
 rw [List.getD_eq_getElem?_getD, List.getElem?_map, List.getElem?_range ht]; rfl
theorem Lst_set {listed : Array Bool} {i j : Nat} (hi : i < listed.size) : Lst (listed.setIfInBounds i true) j ↔ (j = i ∨ Lst listed j) := by
 unfold Lst
 by_cases hj : j = i
 ·subst hj; simp [hi]
 ·rw [Array.getElem?_setIfInBounds_ne (Ne.symm hj)]; simp [hj]
theorem TA_put {listed : Array Bool} (hs : listed.size = ops.size) {i : Nat} {o : Oper} (ho : ops[i]? = some o) (hn : ¬ Lst listed i) (hlate : ∀ j q, ops[j]? = some q → i < j → q.dst = o.dst → o.dst ≠ none → ¬ Lst listed j) :
  TA Tr (listed.setIfInBounds i true) = putT (TA Tr listed) o.dst (Tr.val i) := by
 have hi : i < ops.size := (Array.getElem?_eq_some_iff.1 ho).1
 have hset : ∀ j, Lst (listed.setIfInBounds i true) j ↔ (j = i ∨ Lst listed j) := fun j => Lst_set (by omega)
 apply List.ext_getElem
 ·rw [putT_length, TA_length, TA_length]
 ·intro t h1 h2
  have ht : t < s.tmps.length := by rw [TA_length] at h1; exact h1
  have e1 : (TA Tr (listed.setIfInBounds i true))[t] = (TA Tr (listed.setIfInBounds i true)).getD t .poison := by rw [List.getD_eq_getElem?_getD, List.getElem?_eq_getElem h1]; rfl
  have e2 : (putT (TA Tr listed) o.dst (Tr.val i))[t] = (putT (TA Tr listed) o.dst (Tr.val i)).getD t .poison := by rw [List.getD_eq_getElem?_getD, List.getElem?_eq_getElem h2]; rfl
  rw [e1, e2, TA_getD Tr _ ht, putT_getD _ _ _ _ (by rw [TA_length]; exact ht), TA_getD Tr _ ht]
  by_cases hd : o.dst = some t
  ·rw [if_pos hd]
   have : ∀ m, i < m → m ≤ ops.size → W Tr (listed.setIfInBounds i true) t m = Tr.val i := by
    intro m hm
    induction m with
    | zero => omega
    | succ m ih =>
     intro hms
     have hom : ops[m]? = some (ops[m]'(by omega)) := by simp
     simp only [W, hom]
     rcases Nat.lt_or_ge i m with hlt | hge
     ·rw [if_neg (fun h => ?_)]
      ·exact ih hlt (by omega)
      ·rcases (hset m).1 h.1 with h' | h'
       ·omega
       ·exact hlate m _ hom hlt (by rw [h.2, hd]) (by rw [hd]; simp) h'
     ·obtain rfl : m = i := by omega
      rw [ho] at hom
      simp only [Option.some.injEq] at hom
      rw [if_pos ⟨(hset m).2 (.inl rfl), by rw [← hom]; exact hd⟩]
   exact this ops.size hi (Nat.le_refl _)
  ·rw [if_neg hd]
   have : ∀ m, m ≤ ops.size → W Tr (listed.setIfInBounds i true) t m = W Tr listed t m := by
    intro m
    induction m with
    | zero => intro _; rfl
    | succ m ih =>
     intro hms
     have hom : ops[m]? = some (ops[m]'(by omega)) := by simp
     simp only [W, hom]
     have hiff : (Lst (listed.setIfInBounds i true) m ∧ (ops[m]'(by omega)).dst = some t) ↔ (Lst listed m ∧ (ops[m]'(by omega)).dst = some t) := by
      rw [hset m]
      constructor
      ·rintro ⟨h | h, h'⟩
       ·subst h
        rw [ho] at hom
        simp only [Option.some.injEq] at hom
        exact absurd (hom ▸ h') hd
       ·exact ⟨h, h'⟩
      ·exact fun h => ⟨.inr h.1, h.2⟩
     by_cases hc : Lst listed m ∧ (ops[m]'(by omega)).dst = some t
     ·rw [if_pos (hiff.2 hc), if_pos hc]
     ·rw [if_neg (fun h => hc (hiff.1 h)), if_neg hc]; exact ih (by omega)
   exact this ops.size (Nat.le_refl _)
theorem T_stab {i t : Nat} (hst : stab ops i t = true) : ∀ m, i ≤ m → m ≤ ops.size → (Tr.T m).getD t .poison = (Tr.T i).getD t .poison := by
 intro m hm
 induction m with
 | zero => intro _; obtain rfl : i = 0 := by omega
           rfl
 | succ m ih =>
  intro hms
  rcases Nat.lt_or_ge m i with hlt | hge
  ·obtain rfl : i = m + 1 := by omega
   rfl
  ·have ho : ops[m]? = some (ops[m]'(by omega)) := by simp
   have hne : (ops[m]'(by omega)).dst ≠ some t := by
    simp only [stab, List.all_eq_true, List.mem_range] at hst
    have := hst m (by omega)
    rw [ho] at this
    simp only [Bool.or_eq_true, Nat.blt_eq, Bool.not_eq_true', beq_eq_false_iff_ne] at this
    rcases this with h | h
    ·omega
    ·exact h
   rw [← ih hge (by omega), (Tr.step m _ ho).2]
   by_cases ht : t < s.tmps.length
   ·rw [putT_getD _ _ _ _ (by rw [T_length Tr m (by omega)]; exact ht), if_neg hne]
   ·have h1 : (Tr.T m).length ≤ t := by rw [T_length Tr m (by omega)]; omega
    have h2 : (putT (Tr.T m) (ops[m]'(by omega)).dst (Tr.val m)).length ≤ t := by rw [putT_length]; exact h1
    rw [List.getD_eq_getElem?_getD, List.getD_eq_getElem?_getD, List.getElem?_eq_none h1, List.getElem?_eq_none h2]
theorem T_stabO {i : Nat} {x : Operand} (hst : stabO ops i x = true) {m : Nat} (hm : i ≤ m) (hms : m ≤ ops.size) : evalT (Tr.T m) x = evalT (Tr.T i) x := by
 cases x with
 | tmp t => exact T_stab Tr hst m hm hms
 | _ => rfl
theorem kind_final {i : Nat} {o : Op} (hst : stabC ops i o = true) (hi : i ≤ ops.size) : kindT E s'.tmps o = kindT E (Tr.T i) o := by
 rw [← Tr.Tn]
 unfold kindT
 split
 ·rename_i f args ts
  rw [T_stabO Tr (x := f) (by simpa [stabC] using hst) hi (Nat.le_refl _)]
 ·rfl
end
end
end Go.Sim
end
