/-
 The machine of values: blocks of the running function that nothing refers to may be taken for not made yet.
 The machine of values: whatever order a region draws, it does what the order of the text does.
 The machine of values is sound.
 The machine of values: the evaluator without fuel. What it gives is what the evaluator gives with enough fuel.
 The machine of values, told from the end: what stands behind a piece of code is handed to it. Made for 'simp'.
 The machine of values, told from the end: equations for 'simp', functions.
-/
import Derived.Test.YtfplmcpkagpaiaaGreatDoorMc
set_option linter.unusedSimpArgs false
set_option linter.unusedVariables false
section
namespace Go.Sim
open Go
set_option linter.unnecessarySimpa false
mutual
def V.noRef (j : Nat) : V → Bool
 | .pref d j' _ _ => !(Nat.beq d 0 && Nat.beq j' j)
 | .sref d j' _ _ _ _ => !(Nat.beq d 0 && Nat.beq j' j)
 | .mref d j' => !(Nat.beq d 0 && Nat.beq j' j)
 | .yield d j' => !(Nat.beq d 0 && Nat.beq j' j)
 | .func _ a b => V.noRefL j a && V.noRefL j b
 | .iface _ v => V.noRef j v
 | .agg cs => V.noRefL j cs
 | .tuple vs => V.noRefL j vs
 | _ => true
def V.noRefL (j : Nat) : List V → Bool
 | [] => true
 | v :: r => V.noRef j v && V.noRefL j r
end
def Blk.noRef (j : Nat) : Blk → Bool
 | .row cells _ _ _ _ => V.noRefL j cells
 | .loop _ tmps _ _ _ _ _ => V.noRefL j tmps
 | .it (some (d, j')) _ _ _ => !(Nat.beq d 0 && Nat.beq j' j)
 | _ => true
def Heap.noRef (j : Nat) (h : Heap) : Bool := h.top.all (Blk.noRef j)
noncomputable def Bd.hide (B : Bd) (S : Nat → Prop) : Bd := fun d j => @ite _ (d = 0 ∧ S j) (Classical.propDecidable _) .out (B d j)
section
variable {ok ok' : Nat → Nat → Prop} {w w' : World} {B B' : Bd} {p : Array Oper → Bool} {h : Heap} {S : Nat → Prop}
theorem Bd.hide_in {j : Nat} (hs : S j) : B.hide S 0 j = .out := by unfold Bd.hide; rw [if_pos ⟨rfl, hs⟩]
theorem Bd.hide_not {d j : Nat} (hs : ¬ (d = 0 ∧ S j)) : B.hide S d j = B d j := by unfold Bd.hide; rw [if_neg hs]
theorem Bd.hide_from {d : Nat} (hd : 0 < d) : (B.hide S).from_ d = B.from_ d := by
 funext d' j
 simp only [Bd.from_]
 exact Bd.hide_not (fun h => by omega)
theorem Bd.hide_from0 : (B.hide S).from_ 0 = (B.from_ 0).hide S := by
 have e : ∀ (X : Bd), X.from_ 0 = X := fun X => by funext d j; simp only [Bd.from_, Nat.zero_add]
 rw [e, e]
theorem noRef_ne {d j j' : Nat} (h : (!(Nat.beq d 0 && Nat.beq j' j)) = true) : ¬ (d = 0 ∧ j' = j) := by
 rintro ⟨rfl, rfl⟩
 simp at h
theorem ref_out {d j' : Nat} (h : ∀ j, S j → (!(Nat.beq d 0 && Nat.beq j' j)) = true) : B.hide S d j' = B d j' :=
 Bd.hide_not fun ⟨h1, h2⟩ => noRef_ne (h j' h2) ⟨h1, rfl⟩
mutual
theorem VRel.hide : ∀ (v : V) (c : Value), (∀ j, S j → V.noRef j v = true) → VRel ok w B v c → VRel ok w (B.hide S) v c
 | .bool _, _, _, h | .int _ _, _, _, h | .float _ _, _, _, h | .str _, _, _, h | .nilptr, _, _, h | .nilslice, _, _, h | .nilfunc, _, _, h
 | .niliface, _, _, h | .nilmap, _, _, h | .poison, _, _, h => by simpa only [VRel] using h
 | .pcon _ _, _, _, h | .scon _ _ _ _, _, _, h => by simpa only [VRel] using h
 | .pref d j' o e, c, f, h => by
  simp only [V.noRef] at f
  simp only [VRel] at h ⊢
  rw [ref_out f]; exact h
 | .sref d j' o l e q, c, f, h => by
  simp only [V.noRef] at f
  simp only [VRel] at h ⊢
  rw [ref_out f]; exact h
 | .mref d j', c, f, h => by
  simp only [V.noRef] at f
  simp only [VRel] at h ⊢
  rw [ref_out f]; exact h
 | .yield d j', c, f, h => by
  simp only [V.noRef] at f
  simp only [VRel] at h ⊢
  rw [ref_out f]; exact h
 | .func fn a b, c, f, h => by
  simp only [V.noRef, Bool.and_eq_true] at f
  simp only [VRel] at h ⊢
  obtain ⟨a', b', hc, ha, hb⟩ := h
  exact ⟨a', b', hc, VRelL.hide a a' (fun j hj => (f j hj).1) ha, VRelL.hide b b' (fun j hj => (f j hj).2) hb⟩
 | .iface t x, c, f, h => by
  simp only [V.noRef] at f
  simp only [VRel] at h ⊢
  obtain ⟨x', hc, hx⟩ := h
  exact ⟨x', hc, VRel.hide x x' f hx⟩
 | .agg cs, c, f, h => by
  simp only [V.noRef] at f
  simp only [VRel] at h ⊢
  obtain ⟨cs', hc, hx⟩ := h
  exact ⟨cs', hc, ORelL.hide cs cs' f hx⟩
 | .tuple cs, c, f, h => by
  simp only [V.noRef] at f
  simp only [VRel] at h ⊢
  obtain ⟨cs', hc, hx⟩ := h
  exact ⟨cs', hc, VRelL.hide cs cs' f hx⟩
theorem VRelL.hide : ∀ (l : List V) (l' : List Value), (∀ j, S j → V.noRefL j l = true) → VRelL ok w B l l' → VRelL ok w (B.hide S) l l'
 | [], l', _, h => by simp only [VRelL] at h ⊢; exact h
 | v :: r, l', f, h => by
  simp only [V.noRefL, Bool.and_eq_true] at f
  simp only [VRelL] at h ⊢
  obtain ⟨c, r', rfl, hv, hr⟩ := h
  exact ⟨c, r', rfl, VRel.hide v c (fun j hj => (f j hj).1) hv, VRelL.hide r r' (fun j hj => (f j hj).2) hr⟩
theorem ORelL.hide : ∀ (l : List V) (l' : List Value), (∀ j, S j → V.noRefL j l = true) → ORelL ok w B l l' → ORelL ok w (B.hide S) l l'
 | [], l', _, h => by simp only [ORelL] at h ⊢; exact h
 | v :: r, l', f, h => by
  simp only [V.noRefL, Bool.and_eq_true] at f
  simp only [ORelL] at h ⊢
  obtain ⟨c, r', rfl, h1, hv, hr⟩ := h
  exact ⟨c, r', rfl, h1, VRel.hide v c (fun j hj => (f j hj).1) hv, ORelL.hide r r' (fun j hj => (f j hj).2) hr⟩
end
theorem BlkR.hide {e : Ent} {ob : Option Blk} (f : ∀ b, ob = some b → ∀ j, S j → Blk.noRef j b = true) (h : BlkR ok w B p e ob) : BlkR ok w (B.hide S) p e ob := by
 cases e with
 | out => trivial
 | dead => exact h
 | mp b => exact h
 | it b =>
  obtain ⟨m, since, seen, last, h1, h2⟩ := h
  have hf := f _ h1
  refine ⟨m, since, seen, last, h1, fun d j hm => ?_⟩
  subst hm
  simp only [Blk.noRef] at hf
  rw [ref_out hf]
  exact h2 d j rfl
 | row b ep esz =>
  obtain ⟨cells, flat, plain, h1, h2, h3, h4⟩ := h
  refine ⟨cells, flat, plain, h1, h2, h3, ?_⟩
  have hf := f _ h1
  simp only [Blk.noRef] at hf
  cases b with
  | none => exact h4
  | some b =>
   obtain ⟨c, el, lo, hi, k1, k2, c1, c2, k3, k4⟩ := h4
   exact ⟨c, el, lo, hi, k1, k2, c1, c2, k3, ORelL.hide _ _ hf k4⟩
 | loop l =>
  obtain ⟨fn, tmps, ps, a, c, r, pd, L, h1, h2, k1, k2, k3, k4, k5⟩ := h
  have hf := f _ h1
  simp only [Blk.noRef] at hf
  exact ⟨fn, tmps, ps, a, c, r, pd, L, h1, h2, k1, k2, k3, VRelL.hide _ _ hf k4, k5⟩
theorem HR.hide (hh : HR ok w B p h) (f : ∀ j, S j → Heap.noRef j h = true) : HR ok w (B.hide S) p h := by
 have hsub : ∀ d j b, (B.hide S d j).blk = some b → (B d j).blk = some b := by
  intro d j b hb
  by_cases hq : d = 0 ∧ S j
  ·obtain ⟨rfl, hs⟩ := hq
   rw [Bd.hide_in hs] at hb; cases hb
  ·rwa [Bd.hide_not hq] at hb
 refine ⟨hh.pos, fun d j => ?_, fun d j d' j' b h1 h2 => hh.inj _ _ _ _ b (hsub _ _ _ h1) (hsub _ _ _ h2), fun d j b hb => hh.lt d j b (hsub _ _ _ hb), fun b n hb => ⟨(hh.okn b n hb).1, fun d j hm => by
  have h1 := (hh.okn b n hb).2 d j (hsub _ _ _ hm)
  by_cases hq : d = 0 ∧ S j
  ·obtain ⟨rfl, hs⟩ := hq
   rw [Bd.hide_in hs] at hm; cases hm
  ·rwa [Bd.hide_not hq]⟩, hh.gl⟩
 by_cases hq : d = 0 ∧ S j
 ·obtain ⟨rfl, hs⟩ := hq
  rw [Bd.hide_in hs]; trivial
 ·rw [Bd.hide_not hq]
  by_cases hd : d = 0
  ·subst hd
   rw [Bd.hide_from0]
   refine BlkR.hide (fun b hb j' hj' => ?_) (hh.blk 0 j)
   have := f j' hj'
   rw [Heap.noRef, List.all_eq_true] at this
   rw [Heap.get_top hh.pos] at hb
   exact this b (List.mem_of_getElem? hb)
  ·rw [Bd.hide_from (by omega)]
   exact hh.blk d j
theorem Ext.hide {ok0 : Nat → Nat → Prop} {B0 : Bd} {w0 : World} (hx : Ext ok0 B0 w0 ok' B' w') (hS : ∀ j, S j → B0 0 j = .out) : Ext ok0 B0 w0 ok' (B'.hide S) w' := by
 refine ⟨hx.size, hx.os, hx.tape, hx.output, hx.same, hx.okLe, hx.okOf, fun d j => ?_, fun d j b hb hlt => ?_⟩
 ·by_cases hq : d = 0 ∧ S j
  ·obtain ⟨rfl, hs⟩ := hq
   rw [hS j hs]; trivial
  ·rw [Bd.hide_not hq]; exact hx.ent d j
 ·by_cases hq : d = 0 ∧ S j
  ·obtain ⟨rfl, hs⟩ := hq
   rw [Bd.hide_in hs] at hb; cases hb
  ·rw [Bd.hide_not hq] at hb; exact hx.new d j b hb hlt
end
end Go.Sim
end
section
namespace Go.Sim
open Go
section
variable {E : Env} {rec : Rec} {ops : Array Oper} {s s' : St} {p : Array Oper → Bool} {ok : Nat → Nat → Prop} {w : World} {B : Bd}
theorem HR.pusheds {h : Heap} (hh : HR ok w B p h) (bs : List Blk) : HR ok w B p (h.setTop (h.top ++ bs)) := by
 refine ⟨by rw [Heap.length_setTop]; exact hh.pos, fun d j => ?_, hh.inj, hh.lt, hh.okn, hh.gl⟩
 rw [Heap.get_setTop hh.pos]
 split
 ·rename_i hd; subst hd
  rw [List.getElem?_append]
  split
  ·rw [← Heap.get_top hh.pos]; exact hh.blk 0 j
  ·rw [hh.top_lt (by omega)]; trivial
 ·exact hh.blk d j
theorem Above.pushes {h : Heap} (hp : 0 < h.length) (bs : List Blk) : Above h (h.setTop (h.top ++ bs)) := by
 intro d j x hx
 rw [Heap.get_setTop hp]
 split
 ·rename_i hd; subst hd
  rw [Heap.get_top hp] at hx
  have hlt : j < h.top.length := by
   rcases Nat.lt_or_ge j h.top.length with h1 | h1
   ·exact h1
   ·rw [List.getElem?_eq_none h1] at hx; cases hx
  rw [List.getElem?_append_left hlt]; exact hx
 ·exact hx
theorem Heap.lt_of_get_some {h : Heap} {j : Nat} {b : Blk} (hg : h.get 0 j = some b) : j < h.top.length := by
 cases h with
 | nil => simp [Heap.get] at hg
 | cons l r =>
  rw [Heap.get_top (by simp)] at hg
  exact (List.getElem?_eq_some_iff.1 hg).1
theorem Heap.get_some_of_lt {h : Heap} {j : Nat} (hj : j < h.top.length) : ∃ b, h.get 0 j = some b := by
 cases h with
 | nil => simp [Heap.top] at hj
 | cons l r =>
  rw [Heap.get_top (by simp)]
  exact ⟨_, List.getElem?_eq_getElem hj⟩
theorem step_not_e {m : Nat} (hS : Sound E.P p rec m) (hq : EqOk E) (hE : FnOk E p) (hKI : KnownIn E) {tmps : List V} {h h' : Heap} {o : Oper} {v : V} (hk : kindT E tmps o.op ≠ .e) (hv : valV E rec ops o tmps h = some (v, h')) :
  ∃ blks : List Blk, h' = h.setTop (h.top ++ blks) ∨ h' = h := by
 simp only [valV, Option.bind_eq_some_iff] at hv
 obtain ⟨b, hb, hv⟩ := hv
 cases b with
 | false =>
  simp only [Bool.false_eq_true, if_false, Option.some.injEq, Prod.mk.injEq] at hv
  exact ⟨[], .inr hv.2.symm⟩
 | true =>
  simp only [if_true] at hv
  cases hkk : kindT E tmps o.op with
  | n => exact ⟨[], .inr (oper_n hkk hv).1⟩
  | r => exact ⟨[], .inr (oper_r hkk hv).1⟩
  | e => exact absurd hkk hk
  | a =>
   obtain ⟨blks, h1, _⟩ := oper_a hS hq hE hKI hkk hv
   exact ⟨blks, .inl h1⟩
variable (Tr : Trace E rec ops s s')
section base
variable {m0 : Nat} (hS : Sound E.P p rec m0) (hq : EqOk E) (hE : FnOk E p) (hKI : KnownIn E)
include hS hq hE hKI
theorem range_not_e {i : Nat} : ∀ (d : Nat), i + d ≤ ops.size → (∀ m o, i ≤ m → m < i + d → ops[m]? = some o → kindT E (Tr.T m) o.op ≠ .e) →
  (Tr.hp (i + d)).length = (Tr.hp i).length ∧ (0 < (Tr.hp i).length → Above (Tr.hp i) (Tr.hp (i + d)) ∧ (Tr.hp i).top.length ≤ (Tr.hp (i + d)).top.length)
 | 0, _, _ => ⟨rfl, fun _ => ⟨Above.refl _, Nat.le_refl _⟩⟩
 | d + 1, hd, hk => by
  obtain ⟨h1, h2⟩ := range_not_e d (by omega) (fun m o h h' => hk m o h (by omega))
  have ho : ops[i + d]? = some (ops[i + d]'(by omega)) := by simp
  have hst := (Tr.step (i + d) _ ho).1
  obtain ⟨blks, h | h⟩ := step_not_e hS hq hE hKI (hk (i + d) _ (by omega) (by omega) ho) hst
  ·rw [show i + (d + 1) = i + d + 1 from rfl, h]
   refine ⟨by rw [Heap.length_setTop]; exact h1, fun hp => ?_⟩
   obtain ⟨g1, g2⟩ := h2 hp
   refine ⟨g1.trans (Above.pushes (by rw [h1]; exact hp) blks), ?_⟩
   rw [Heap.top_setTop (by rw [h1]; exact hp)]
   simp; omega
  ·rw [show i + (d + 1) = i + d + 1 from rfl, h]; exact ⟨h1, h2⟩
theorem advance : ∀ (d i : Nat), i + d = ops.size → HR ok w B p (Tr.hp i) → ∃ k, i ≤ k ∧ k ≤ ops.size ∧ (∀ m o, i ≤ m → m < k → ops[m]? = some o → kindT E (Tr.T m) o.op ≠ .e) ∧
  (∀ o, ops[k]? = some o → kindT E (Tr.T k) o.op = .e) ∧ HR ok w B p (Tr.hp k)
 | 0, i, hd, hh => ⟨i, Nat.le_refl _, by omega, fun m o h h' => by omega, (fun o ho => by rw [Array.getElem?_eq_none (by omega)] at ho; cases ho), hh⟩
 | d + 1, i, hd, hh => by
  have ho : ops[i]? = some (ops[i]'(by omega)) := by simp
  by_cases hk : kindT E (Tr.T i) (ops[i]'(by omega)).op = .e
  ·exact ⟨i, Nat.le_refl _, by omega, fun m o h h' => by omega, (fun o ho' => by rw [ho] at ho'; simp only [Option.some.injEq] at ho'; rw [← ho']; exact hk), hh⟩
  ·have hst := (Tr.step i _ ho).1
   have hh' : HR ok w B p (Tr.hp (i + 1)) := by
    obtain ⟨blks, h | h⟩ := step_not_e hS hq hE hKI hk hst
    ·rw [h]; exact hh.pusheds blks
    ·rw [h]; exact hh
   obtain ⟨k, h1, h2, h3, h4, h5⟩ := advance d (i + 1) (by omega) hh'
   refine ⟨k, by omega, h2, fun m o hm hm' ho' => ?_, h4, h5⟩
   rcases Nat.eq_or_lt_of_le hm with rfl | hlt
   ·rw [ho] at ho'; simp only [Option.some.injEq] at ho'; rw [← ho']; exact hk
   ·exact h3 m o hlt hm' ho'
end base
structure Inv (p : Array Oper → Bool) (base : Base) (ok0 : Nat → Nat → Prop) (B0 : Bd) (w0 : World) (listed : Array Bool) (a : Act) (w : World) : Prop where
 size : listed.size = ops.size
 closed : Closed ops listed
 ex : ∃ (k : Nat) (ok : Nat → Nat → Prop) (B : Bd), k ≤ ops.size ∧ (∀ j o, j < k → ops[j]? = some o → kindT E (Tr.T j) o.op = .e → Lst listed j) ∧ (∀ o, ops[k]? = some o → kindT E (Tr.T k) o.op = .e ∧ ¬ Lst listed k) ∧
  Ext ok0 B0 w0 ok B w ∧ HR ok w B p (Tr.hp k) ∧ VRelL ok w B (TA Tr listed) a.tmps.toList ∧ Marks base ok B w a.defers ∧ (Tr.hp k).length = s.heap.length ∧
  ∀ m o, m < k → ops[m]? = some o → kindT E (Tr.T m) o.op = .a → wantedV ops (Tr.T m) o = some true → ¬ Lst listed m → ∀ j, (Tr.hp m).top.length ≤ j → j < (Tr.hp (m + 1)).top.length → B 0 j = .out
noncomputable def cnt (listed : Array Bool) : Nat → Nat
 | 0 => 0
 | m + 1 => cnt listed m + @ite _ (Lst listed m) (Classical.propDecidable _) 0 1
theorem cnt_set {listed : Array Bool} {i : Nat} (hi : i < listed.size) (hn : ¬ Lst listed i) : ∀ m, cnt (listed.setIfInBounds i true) m + (if i < m then 1 else 0) = cnt listed m
 | 0 => by simp [cnt]
 | m + 1 => by
  have ih := cnt_set hi hn m
  simp only [cnt]
  by_cases him : i = m
  ·subst him
   rw [if_pos ((Lst_set hi).2 (.inl rfl)), if_neg hn]
   rw [if_neg (by omega)] at ih
   rw [if_pos (by omega)]; omega
  ·have hiff : Lst (listed.setIfInBounds i true) m ↔ Lst listed m := by
    rw [Lst_set hi]; exact ⟨fun h => h.resolve_left (Ne.symm him), .inr⟩
   by_cases hc : Lst listed m
   ·rw [if_pos (hiff.2 hc), if_pos hc]
    by_cases hlt : i < m
    ·rw [if_pos hlt] at ih; rw [if_pos (by omega)]; omega
    ·rw [if_neg hlt] at ih; rw [if_neg (by omega)]; omega
   ·rw [if_neg (fun h => hc (hiff.1 h)), if_neg hc]
    by_cases hlt : i < m
    ·rw [if_pos hlt] at ih; rw [if_pos (by omega)]; omega
    ·rw [if_neg hlt] at ih; rw [if_neg (by omega)]; omega
theorem cnt_zero {listed : Array Bool} : ∀ m, cnt listed m = 0 → ∀ i, i < m → Lst listed i
 | 0, _, i, hi => by omega
 | m + 1, h, i, hi => by
  simp only [cnt] at h
  by_cases hc : Lst listed m
  ·rcases Nat.lt_succ_iff_lt_or_eq.1 hi with hlt | rfl
   ·exact cnt_zero m (by omega) i hlt
   ·exact hc
  ·rw [if_neg hc] at h; omega
theorem confS_dst_looks {x y : Oper} {t : Tmp} (h1 : x.dst = some t) (h2 : t ∈ y.looksAt ops) : confS ops x y = true ∧ confS ops y x = true := by
 unfold confS
 rw [h1]
 have : (y.looksAt ops).contains t = true := by simpa using h2
 simp [this]
 simp_all
theorem confS_same {x y : Oper} {t : Tmp} (h1 : x.dst = some t) (h2 : y.dst = some t) : confS ops x y = true := by
 unfold confS
 rw [h1, h2]
 simp
theorem loadV_get {P : Program} {h H : Heap} {t : TypeId} {A v : V} (hl : loadV P h t A = some v) (hg : ∀ d j off ep, A = .pref d j off ep → ∀ b, h.get d j = some b → H.get d j = some b) : loadV P H t A = some v := by
 have key : ∀ n l, h.load A n = some l → H.load A n = some l := by
  intro n l hl0
  clear hl
  cases A with
  | pref d j off ep =>
   simp only [Heap.load] at hl0 ⊢
   cases hgg : h.get d j with
   | none => rw [hgg] at hl0; cases hl0
   | some b => rw [hgg] at hl0; rw [hg d j off ep rfl b hgg]; exact hl0
  | pcon cells off => exact hl0
  | _ => simp [Heap.load] at hl0
 simp only [loadV, Option.bind_eq_some_iff] at hl ⊢
 obtain ⟨g, hgg, hl⟩ := hl
 refine ⟨g, hgg, ?_⟩
 split at hl
 ·rename_i ht
  rw [if_pos ht]
  simp only [Option.bind_eq_some_iff, Option.map_eq_some_iff] at hl ⊢
  obtain ⟨n, hn, l, hl, rfl⟩ := hl
  exact ⟨n, hn, l, key _ _ hl, rfl⟩
 ·rename_i ht
  rw [if_neg ht]
  simp only [Option.bind_eq_some_iff] at hl ⊢
  obtain ⟨l, hl, hv⟩ := hl
  exact ⟨l, key _ _ hl, hv⟩
theorem storeV_get {P : Program} {h h' : Heap} {t : TypeId} {A x : V} (hs : storeV P h t A x = some h') {A0 : V} (ha : apartV A0 A = true) : h'.length = h.length ∧ ∀ d j off ep, A0 = .pref d j off ep → h'.get d j = h.get d j := by
 simp only [storeV, Option.bind_eq_some_iff] at hs
 obtain ⟨n, hn, hs⟩ := hs
 split at hs
 ·unfold Heap.store at hs
  split at hs
  ·rename_i d' j' off' ep'
   split at hs
   ·split at hs
    ·simp only [Option.bind_eq_some_iff, Option.some.injEq] at hs
     obtain ⟨vs, _, rfl⟩ := hs
     refine ⟨by simp [Heap.set], fun d j off ep hA0 => ?_⟩
     subst hA0
     simp only [apartV, Bool.or_eq_true, Bool.not_eq_true', beq_eq_false_iff_ne] at ha
     unfold Heap.get Heap.set
     by_cases hd : d' = d
     ·subst hd
      have hj : j ≠ j' := by rcases ha with h | h; exact absurd rfl h; exact h
      by_cases hlt : d' < h.length
      ·rw [List.getElem?_set_self hlt]
       simp [List.getElem?_eq_getElem hlt, List.getElem?_set_ne (Ne.symm hj)]
      ·rw [List.getElem?_eq_none (by simpa using hlt), List.getElem?_eq_none (by simpa using hlt)]
     ·rw [List.getElem?_set_ne hd]
    ·cases hs
   ·cases hs
  ·cases hs
 ·cases hs
theorem append_get {P : Program} {h h' : Heap} {ts : List TypeId} {s v A : V} {l : List V} (hs : builtinV P h .append ts (s :: l) = some (v, h')) (ha : apartS A s = true) : h'.length = h.length ∧ ∀ d j off ep, A = .pref d j off ep → h'.get d j = h.get d j := by
 unfold apartS at ha
 split at ha
 ·rename_i d0 j0 o0 e0 d' j' off' len' ep' q'
  rcases ts with _ | ⟨t, r⟩
  ·rcases l with _ | ⟨x, _ | _⟩ <;> simp [builtinV] at hs
  rcases l with _ | ⟨x, _ | _⟩
  ·simp [builtinV] at hs
  ·simp only [builtinV] at hs
   unfold appendV at hs
   split at hs
   ·simp only [Option.bind_eq_some_iff] at hs
    obtain ⟨k, _, by_, _, z, _, len, _, ⟨n, news⟩, _, hs⟩ := hs
    dsimp only at hs
    split at hs
    ·cases hs
    ·simp only [Bool.false_eq_true, if_false] at hs
     split at hs
     ·simp only [Option.some.injEq, Prod.mk.injEq] at hs
      obtain ⟨_, rfl⟩ := hs
      exact ⟨rfl, fun _ _ _ _ _ => rfl⟩
     split at hs
     ·split at hs
      ·simp only [Option.bind_eq_some_iff, Option.some.injEq, Prod.mk.injEq] at hs
       obtain ⟨news', _, _, rfl⟩ := hs
       refine ⟨by simp [Heap.set], fun d j off ep hA0 => ?_⟩
       cases hA0
       simp only [Bool.or_eq_true, Bool.not_eq_true'] at ha
       have ha : d0 ≠ d' ∨ j0 ≠ j' := by
        rcases ha with h | h
        ·left; rintro rfl; simp at h
        ·right; rintro rfl; simp at h
       unfold Heap.get Heap.set
       by_cases hd : d' = d0
       ·subst hd
        have hj : j0 ≠ j' := by rcases ha with h | h; exact absurd rfl h; exact h
        by_cases hlt : d' < h.length
        ·rw [List.getElem?_set_self hlt]
         simp [List.getElem?_eq_getElem hlt, List.getElem?_set_ne (Ne.symm hj)]
        ·rw [List.getElem?_eq_none (by simpa using hlt), List.getElem?_eq_none (by simpa using hlt)]
       ·rw [List.getElem?_set_ne hd]
      ·cases hs
     ·cases hs
   ·cases hs
  ·simp [builtinV] at hs
 ·cases ha
def StoreApart (Tr : Trace E rec ops s s') (A : V) (m : Nat) (q : Oper) : Prop := (∃ t b x, q.op = .store t b x ∧ apartV A (evalT (Tr.T m) b) = true) ∨
 (∃ f args ts g F, q.op = .call { callee := .value f, args := args, argTypes := ts } ∧ evalT (Tr.T m) f = .func (.func g) [] [] ∧ E.frame g = true ∧ E.known g = some F ∧ (∀ x ∈ args.toList, argApart A (evalT (Tr.T m) x) = true)) ∨
 ∃ args ts x r, q.op = .call { callee := .builtin .append, args := args, argTypes := ts } ∧ args.toList = x :: r ∧ apartS A (evalT (Tr.T m) x) = true
theorem step_apart (hfr : FrameOk E) {A : V} {m : Nat} {q : Oper} (hq' : ops[m]? = some q) (hsa : StoreApart Tr A m q) : (Tr.hp (m + 1)).length = (Tr.hp m).length ∧ ∀ d j off ep, A = .pref d j off ep → (Tr.hp (m + 1)).get d j = (Tr.hp m).get d j := by
 have hst := (Tr.step m q hq').1
 simp only [valV, Option.bind_eq_some_iff] at hst
 obtain ⟨c, hc, hst⟩ := hst
 cases c with
 | false =>
  simp only [Bool.false_eq_true, if_false, Option.some.injEq, Prod.mk.injEq] at hst
  rw [← hst.2]; exact ⟨rfl, fun _ _ _ _ _ => rfl⟩
 | true =>
  rcases hsa with ⟨t, b, x, hop, ha⟩ | ⟨f, args, ts, g, F, hop, hf, hg, hF, hargs⟩ | ⟨args, ts, x, r, hop, hx, ha⟩
  ·simp only [if_true, hop] at hst
   simp only [operV, opV, Option.map_eq_some_iff, Prod.mk.injEq] at hst
   obtain ⟨h', hs, _, rfl⟩ := hst
   exact storeV_get hs ha
  ·simp only [if_true, hop] at hst
   simp only [operV, hf, applyV, List.nil_append, List.append_nil, callV, hF] at hst
   obtain ⟨g1, g2⟩ := hfr g F hg hF _ _ _ _ hst
   refine ⟨g1, fun d j off ep hA => g2 d j fun v hv d' j' o e hve => ?_⟩
   subst hA
   obtain ⟨x, hx, rfl⟩ := List.mem_map.1 hv
   have := hargs x hx
   rw [hve] at this
   simp only [argApart, apartV, Bool.or_eq_true, Bool.not_eq_true', beq_eq_false_iff_ne] at this
   rcases this with h | h
   ·exact .inl (Ne.symm h)
   ·exact .inr (Ne.symm h)
  ·simp only [if_true, hop] at hst
   simp only [operV, opV, hx, List.map_cons] at hst
   exact append_get hst ha
section
variable {m0 : Nat} (hS : Sound E.P p rec m0) (hq : EqOk E) (hE : FnOk E p) (hKI : KnownIn E)
include hS hq hE hKI
theorem range_apart {A : V} {i : Nat} : ∀ (d : Nat), i + d ≤ ops.size → (∀ m q, i ≤ m → m < i + d → ops[m]? = some q → kindT E (Tr.T m) q.op ≠ .e ∨ StoreApart Tr A m q) →
  (Tr.hp (i + d)).length = (Tr.hp i).length ∧ (0 < (Tr.hp i).length → ∀ d' j off ep, A = .pref d' j off ep → ∀ b, (Tr.hp i).get d' j = some b → (Tr.hp (i + d)).get d' j = some b)
 | 0, _, _ => ⟨rfl, fun _ _ _ _ _ _ _ h => h⟩
 | d + 1, hd, hk => by
  obtain ⟨h1, h2⟩ := range_apart d (by omega) (fun m o h h' => hk m o h (by omega))
  have ho : ops[i + d]? = some (ops[i + d]'(by omega)) := by simp
  rw [show i + (d + 1) = i + d + 1 from rfl]
  rcases hk (i + d) _ (by omega) (by omega) ho with hne | hsa
  ·obtain ⟨blks, h | h⟩ := step_not_e hS hq hE hKI hne (Tr.step (i + d) _ ho).1
   ·rw [h]
    refine ⟨by rw [Heap.length_setTop]; exact h1, fun hp d' j off ep hA b hb => ?_⟩
    exact Above.pushes (by rw [h1]; exact hp) blks _ _ _ (h2 hp d' j off ep hA b hb)
   ·rw [h]; exact ⟨h1, h2⟩
  ·obtain ⟨g1, g2⟩ := step_apart Tr hE.frame ho hsa
   exact ⟨g1.trans h1, fun hp d' j off ep hA b hb => by rw [g2 d' j off ep hA]; exact h2 hp d' j off ep hA b hb⟩
omit hS hq hKI in
theorem range_apart_back {A : V} {k : Nat} : ∀ (d : Nat), k + d ≤ ops.size → (∀ m q, k ≤ m → m < k + d → ops[m]? = some q → (kindT E (Tr.T m) q.op = .n ∨ kindT E (Tr.T m) q.op = .r) ∨ StoreApart Tr A m q) →
  ∀ d' j off ep, A = .pref d' j off ep → (Tr.hp (k + d)).get d' j = (Tr.hp k).get d' j
 | 0, _, _ => fun _ _ _ _ _ => rfl
 | d + 1, hd, hk => by
  have h2 := range_apart_back d (by omega) (fun m o h h' => hk m o h (by omega))
  have ho : ops[k + d]? = some (ops[k + d]'(by omega)) := by simp
  intro d' j off ep hA
  rw [show k + (d + 1) = k + d + 1 from rfl]
  rcases hk (k + d) _ (by omega) (by omega) ho with hne | hsa
  ·have hst := (Tr.step (k + d) _ ho).1
   simp only [valV, Option.bind_eq_some_iff] at hst
   obtain ⟨c, hc, hst⟩ := hst
   have : Tr.hp (k + d + 1) = Tr.hp (k + d) := by
    cases c with
    | false =>
     simp only [Bool.false_eq_true, if_false, Option.some.injEq, Prod.mk.injEq] at hst
     exact hst.2.symm
    | true =>
     simp only [if_true] at hst
     rcases hne with h | h
     ·exact (oper_n h hst).1
     ·exact (oper_r h hst).1
   rw [this]; exact h2 d' j off ep hA
  ·rw [(step_apart Tr hE.frame ho hsa).2 d' j off ep hA]; exact h2 d' j off ep hA
end
structure PO (U W : Nat → Nat → Prop) : Prop where
 edges : edgesOk ops = true
 conf : ∀ {i j : Nat} {o q : Oper}, ops[i]? = some o → ops[j]? = some q → j < i → confS ops q o = true → reach ops 8 i j = true
 ea : ∀ {i j : Nat} {o q : Oper}, ops[i]? = some o → ops[j]? = some q → j < i → (kindT E (Tr.T i) o.op = .e ∨ kindT E (Tr.T i) o.op = .a) → kindT E (Tr.T j) q.op = .e → reach ops 8 i j = true
 ae : ∀ {i m : Nat} {o q : Oper}, ops[i]? = some o → ops[m]? = some q → m < i → kindT E (Tr.T i) o.op = .e → kindT E (Tr.T m) q.op = .a → reach ops 8 i m = true ∨ W i m
 new : ∀ {i m : Nat}, W i m → 0 < (Tr.hp m).length ∧ (∃ q elem, ops[m]? = some q ∧ q.op = .alloc elem) ∧ ∀ j, (Tr.hp m).top.length ≤ j → j < (Tr.hp (m + 1)).top.length →
  (Tr.hp (i + 1)).get 0 j = (Tr.hp i).get 0 j ∧ Heap.noRef j (Tr.hp (i + 1)) = true ∧ V.noRef j (Tr.val i) = true
 re : ∀ {i j : Nat} {o q : Oper}, ops[i]? = some o → ops[j]? = some q → kindT E (Tr.T i) o.op = .r → kindT E (Tr.T j) q.op = .e → (i < j → reach ops 8 j i = true ∨ U i j) ∧ (j < i → reach ops 8 i j = true ∨ U i j)
 load : ∀ {i k : Nat} {o : Oper}, ops[i]? = some o → kindT E (Tr.T i) o.op = .r → k ≤ ops.size → i ≠ k → (∀ q, ops[k]? = some q → kindT E (Tr.T k) q.op = .e) → 0 < (Tr.hp k).length →
  (∀ m q, ops[m]? = some q → kindT E (Tr.T m) q.op = .e → ((i < m ∧ m < k) ∨ (k ≤ m ∧ m < i)) → U i m) → ∀ m0 q0, ops[m0]? = some q0 → kindT E (Tr.T m0) q0.op = .e → ((i < m0 ∧ m0 < k) ∨ (k ≤ m0 ∧ m0 < i)) →
  ∃ t x, o.op = .load t x ∧ ∀ v1, loadV E.P (Tr.hp i) t (evalT (Tr.T i) x) = some v1 → loadV E.P (Tr.hp k) t (evalT (Tr.T i) x) = some v1
section
variable {m : Nat} (hS : Sound E.P p rec m) (hq : EqOk E) (hE : FnOk E p) (hK : KnownOk E p) (hKI : KnownIn E) (hok : regOkD E ops s'.tmps = true)
include hok
theorem pair_of {i j : Nat} {o q : Oper} (ho : ops[i]? = some o) (hq' : ops[j]? = some q) (hj : j < i) : reach ops 8 i j = true ∨ (confS ops q o = false ∧ (confK (kindT E (Tr.T j) q.op) (kindT E (Tr.T i) o.op) = false ∨
  disj E s'.tmps ops i j o q = true ∨ disj E s'.tmps ops j i q o = true)) := by
 have hi : i < ops.size := (Array.getElem?_eq_some_iff.1 ho).1
 obtain ⟨_, h1, h2⟩ := regOkD_at hok ho
 obtain ⟨_, h3, _⟩ := regOkD_at hok hq'
 have := h2 j q hj hq'
 rw [kind_final Tr h1 (by omega), kind_final Tr h3 (by omega)] at this
 exact this
include Tr in
theorem reach_S {i j : Nat} {o q : Oper} (ho : ops[i]? = some o) (hq' : ops[j]? = some q) (hj : j < i) (hc : confS ops q o = true) : reach ops 8 i j = true := by
 rcases pair_of Tr hok ho hq' hj with h | ⟨h, _⟩
 ·exact h
 ·rw [hc] at h; cases h
theorem of_disj {i j : Nat} {o q : Oper} (ho : ops[i]? = some o) (hq' : ops[j]? = some q) (hd : disj E s'.tmps ops i j o q = true) : ∃ t a, o.op = .load t a ∧ StoreApart Tr (evalT (Tr.T i) a) j q ∧
  (i < j ∨ ∀ m x, j < m → m < i → ops[m]? = some x → kindT E (Tr.T m) x.op ≠ .a) := by
 have hi : i < ops.size := (Array.getElem?_eq_some_iff.1 ho).1
 have hjs : j < ops.size := (Array.getElem?_eq_some_iff.1 hq').1
 have hnew : noNew E s'.tmps ops i j = true → (i < j ∨ ∀ m x, j < m → m < i → ops[m]? = some x → kindT E (Tr.T m) x.op ≠ .a) := by
  intro e4
  simp only [noNew, Bool.or_eq_true, Nat.blt_eq, List.all_eq_true, List.mem_range] at e4
  rcases e4 with h | h
  ·exact .inl h
  ·refine .inr fun m x hm1 hm2 hx hka => ?_
   have := h m hm2
   rw [hx] at this
   simp only [Nat.ble_eq, Bool.not_eq_true', beq_eq_false_iff_ne] at this
   rcases this with h | h
   ·omega
   ·rw [kind_final Tr (regOkD_at hok hx).2.1 (by omega)] at h
    exact h hka
 unfold disj at hd
 split at hd
 ·rename_i t a t' b x h1 h2
  simp only [Bool.and_eq_true] at hd
  obtain ⟨⟨⟨e1, e2⟩, e3⟩, e4⟩ := hd
  rw [← Tr.Tn, T_stabO Tr e1 (by omega) (Nat.le_refl _), T_stabO Tr e2 (by omega) (Nat.le_refl _)] at e3
  exact ⟨t, a, h1, .inl ⟨t', b, x, h2, e3⟩, hnew e4⟩
 ·rename_i t a f args ts h1 h2
  split at hd
  ·rename_i g hf
   simp only [Bool.and_eq_true, List.all_eq_true] at hd
   obtain ⟨⟨⟨⟨⟨⟨e0, e1⟩, _⟩, e2⟩, e3⟩, e4⟩, e5⟩ := hd
   obtain ⟨F, hF⟩ := Option.isSome_iff_exists.1 e1
   rw [← Tr.Tn, T_stabO Tr e3 (by omega) (Nat.le_refl _)] at hf
   refine ⟨t, a, h1, .inr (.inl ⟨f, args, ts, g, F, h2, hf, e0, hF, fun x hx => ?_⟩), hnew e5⟩
   obtain ⟨k1, k2⟩ := e4 x hx
   rw [← Tr.Tn, T_stabO Tr e2 (by omega) (Nat.le_refl _), T_stabO Tr k1 (by omega) (Nat.le_refl _)] at k2
   exact k2
  ·cases hd
 ·rename_i t a args ts h1 h2
  split at hd
  ·rename_i x r hx
   simp only [Bool.and_eq_true] at hd
   obtain ⟨⟨⟨e1, e2⟩, e3⟩, e4⟩ := hd
   rw [← Tr.Tn, T_stabO Tr e1 (by omega) (Nat.le_refl _), T_stabO Tr e2 (by omega) (Nat.le_refl _)] at e3
   exact ⟨t, a, h1, .inr (.inr ⟨args, ts, x, r, h2, hx, e3⟩), hnew e4⟩
  ·cases hd
 ·cases hd
omit hok in
theorem not_disj {i j : Nat} {o q : Oper} (ho : ops[i]? = some o) (hne : kindT E (Tr.T i) o.op ≠ .r) : disj E s'.tmps ops i j o q = false := by
 cases h : disj E s'.tmps ops i j o q with
 | false => rfl
 | true =>
  unfold disj at h
  split at h
  ·rename_i t a t' b x h1 h2
   rw [h1] at hne
   exact absurd rfl hne
  ·rename_i t a f args ts h1 h2
   rw [h1] at hne
   exact absurd rfl hne
  ·rename_i t a args ts h1 h2
   rw [h1] at hne
   exact absurd rfl hne
  ·cases h
theorem reach_ea {i j : Nat} {o q : Oper} (ho : ops[i]? = some o) (hq' : ops[j]? = some q) (hj : j < i) (h : (kindT E (Tr.T i) o.op = .e ∧ (kindT E (Tr.T j) q.op = .e ∨ kindT E (Tr.T j) q.op = .a)) ∨ (kindT E (Tr.T j) q.op = .e ∧ (kindT E (Tr.T i) o.op = .e ∨ kindT E (Tr.T i) o.op = .a))) :
  reach ops 8 i j = true := by
 rcases pair_of Tr hok ho hq' hj with h' | ⟨_, h' | h' | h'⟩
 ·exact h'
 ·rcases h with ⟨h1, h2 | h2⟩ | ⟨h1, h2 | h2⟩ <;> simp [confK, h1, h2] at h'
 ·rw [not_disj Tr ho (by rcases h with ⟨h1, h2 | h2⟩ | ⟨h1, h2 | h2⟩ <;> simp [h1, h2])] at h'; cases h'
 ·rw [not_disj Tr hq' (by rcases h with ⟨h1, h2 | h2⟩ | ⟨h1, h2 | h2⟩ <;> simp [h1, h2])] at h'; cases h'
theorem reach_re {i j : Nat} {o q : Oper} (ho : ops[i]? = some o) (hq' : ops[j]? = some q) (hr : kindT E (Tr.T i) o.op = .r) (he : kindT E (Tr.T j) q.op = .e) : (i < j → reach ops 8 j i = true ∨ disj E s'.tmps ops i j o q = true) ∧
  (j < i → reach ops 8 i j = true ∨ disj E s'.tmps ops i j o q = true) := by
 constructor
 ·intro hj
  rcases pair_of Tr hok hq' ho hj with h' | ⟨_, h' | h' | h'⟩
  ·exact .inl h'
  ·simp [confK, hr, he] at h'
  ·rw [not_disj Tr hq' (by simp [he])] at h'; cases h'
  ·exact .inr h'
 ·intro hj
  rcases pair_of Tr hok ho hq' hj with h' | ⟨_, h' | h' | h'⟩
  ·exact .inl h'
  ·simp [confK, hr, he] at h'
  ·exact .inr h'
  ·rw [not_disj Tr hq' (by simp [he])] at h'; cases h'
include hS hq hE hKI
theorem po_static : PO Tr (fun i j => ∃ o q, ops[i]? = some o ∧ ops[j]? = some q ∧ disj E s'.tmps ops i j o q = true) (fun _ _ => False) where
 edges := by simp only [regOkD, Bool.and_eq_true] at hok; exact hok.1
 conf := fun ho hq' hj hc => reach_S Tr hok ho hq' hj hc
 ea := fun ho hq' hj h1 h2 => reach_ea Tr hok ho hq' hj (.inr ⟨h2, h1⟩)
 ae := fun ho hq' hj h1 h2 => .inl (reach_ea Tr hok ho hq' hj (.inl ⟨h1, .inr h2⟩))
 new := fun h => h.elim
 re := fun ho hq' hr he => by
  obtain ⟨h1, h2⟩ := reach_re Tr hok ho hq' hr he
  exact ⟨fun h => (h1 h).imp id fun h => ⟨_, _, ho, hq', h⟩, fun h => (h2 h).imp id fun h => ⟨_, _, ho, hq', h⟩⟩
 load := by
  intro i k o ho hkk hk hne hke hpos hbt0 m0 q0 hq0 hk0 hb0
  have hko : kindT E (Tr.T i) o.op ≠ .e := by rw [hkk]; simp
  have hbt : ∀ m q, ops[m]? = some q → kindT E (Tr.T m) q.op = .e → ((i < m ∧ m < k) ∨ (k ≤ m ∧ m < i)) → disj E s'.tmps ops i m o q = true := by
   intro m q hq' h1 h2
   obtain ⟨o2, q2, e1, e2, e3⟩ := hbt0 m q hq' h1 h2
   rw [ho] at e1; rw [hq'] at e2
   simp only [Option.some.injEq] at e1 e2
   subst e1 e2
   exact e3
  have hin : i < ops.size := (Array.getElem?_eq_some_iff.1 ho).1
  obtain ⟨t, x, hop, _, _⟩ := of_disj Tr hok ho hq0 (hbt m0 q0 hq0 hk0 hb0)
  refine ⟨t, x, hop, fun v1 hv1 => loadV_get hv1 ?_⟩
  intro d j off ep hAe b hgb
  rcases Nat.lt_or_gt_of_ne hne with hlt | hgt
  ·have hra := range_apart Tr hS hq hE hKI (A := evalT (Tr.T i) x) (i := i) (k - i) (by omega) fun m q h1 h2 hq' => by
    by_cases hke' : kindT E (Tr.T m) q.op = .e
    ·have him : i < m := by
      rcases Nat.eq_or_lt_of_le h1 with rfl | h
      ·rw [ho] at hq'; simp only [Option.some.injEq] at hq'; subst hq'; exact absurd hke' hko
      ·exact h
     obtain ⟨t2, x2, hop2, hsa, _⟩ := of_disj Tr hok ho hq' (hbt m q hq' hke' (.inl ⟨him, by omega⟩))
     rw [hop] at hop2
     cases hop2
     exact .inr hsa
    ·exact .inl hke'
   rw [show i + (k - i) = k from by omega] at hra
   exact hra.2 (by rw [← hra.1]; exact hpos) d j off ep hAe b hgb
  ·have hoq : ops[k]? = some (ops[k]'(by omega)) := by simp
   obtain ⟨_, _, _, _, hnoa⟩ := of_disj Tr hok ho hoq (hbt k _ hoq (hke _ hoq) (.inr ⟨Nat.le_refl _, hgt⟩))
   have hnoa : ∀ m x, k < m → m < i → ops[m]? = some x → kindT E (Tr.T m) x.op ≠ .a := by
    rcases hnoa with h | h
    ·omega
    ·exact h
   have hrb := range_apart_back Tr hE (A := evalT (Tr.T i) x) (k := k) (i - k) (by omega) fun m q h1 h2 hq' => by
    by_cases hke' : kindT E (Tr.T m) q.op = .e
    ·obtain ⟨t2, x2, hop2, hsa, _⟩ := of_disj Tr hok ho hq' (hbt m q hq' hke' (.inr ⟨h1, by omega⟩))
     rw [hop] at hop2
     cases hop2
     exact .inr hsa
    ·left
     have hkm : k < m := by
      rcases Nat.eq_or_lt_of_le h1 with rfl | h
      ·exact absurd (hke q hq') hke'
      ·exact h
     have := hnoa m q hkm (by omega) hq'
     cases hkx : kindT E (Tr.T m) q.op with
     | n => exact .inl rfl
     | r => exact .inr rfl
     | a => exact absurd hkx this
     | e => exact absurd hkx hke'
   rw [show k + (i - k) = i from by omega] at hrb
   rw [← hrb d j off ep hAe]; exact hgb
end
section
variable {m : Nat} (hS : Sound E.P p rec m) (hq : EqOk E) (hE : FnOk E p) (hK : KnownOk E p) (hKI : KnownIn E)
variable {U W : Nat → Nat → Prop} (hok : PO Tr U W)
include hok hS hq hE hK hKI
theorem inv_run (md : Region.Mode) {F : Fence} (hF : FW F) {base : Base} {ok0 : Nat → Nat → Prop} {B0 : Bd} {w0 : World} {Q : Exit → Act → World → Prop} (hfn : s'.fn = s.fn)
  (hQ : ∀ ok' B' w' a', Ext ok0 B0 w0 ok' B' w' → SR p base s' ok' B' w' a' → s'.heap.length = s.heap.length → Q .normal a' w') :
  ∀ (fuel : Nat) (listed : Array Bool) (a : Act) (w : World), Inv Tr p base ok0 B0 w0 listed a w → cnt listed ops.size ≤ fuel → wpAnyIn F 0 E.P md ops Q fuel listed a w := by
 have done : ∀ (listed : Array Bool) (a : Act) (w : World), Inv Tr p base ok0 B0 w0 listed a w → Region.ready md ops listed = [] → Q .normal a w := by
  intro listed a w hI hr
  have hall := all_listed hok.edges hI.size hr
  obtain ⟨k, ok, B, hk, h1, h2, hx, hh, ht, hm, hl, _⟩ := hI.ex
  have hkn : k = ops.size := by
   rcases Nat.lt_or_eq_of_le hk with hlt | h
   ·have ho : ops[k]? = some (ops[k]'hlt) := by simp
    exact absurd (hall k hlt) (h2 _ ho).2
   ·exact h
  subst hkn
  rw [Tr.hn] at hh hl
  have hTA : TA Tr listed = s'.tmps := by
   rw [← Tr.Tn]
   apply List.ext_getElem
   ·rw [TA_length, T_length Tr _ (Nat.le_refl _)]
   ·intro t h1 h2
    have htl : t < s.tmps.length := by rw [TA_length] at h1; exact h1
    have e1 : (TA Tr listed)[t] = (TA Tr listed).getD t .poison := by rw [List.getD_eq_getElem?_getD, List.getElem?_eq_getElem h1]; rfl
    have e2 : (Tr.T ops.size)[t] = (Tr.T ops.size).getD t .poison := by rw [List.getD_eq_getElem?_getD, List.getElem?_eq_getElem h2]; rfl
    rw [e1, e2, TA_getD Tr _ htl]
    exact W_agree Tr htl (Nat.le_refl _) fun j o ho _ => ⟨fun _ => (Array.getElem?_eq_some_iff.1 ho).1, fun h => hall j h⟩
  rw [hTA] at ht
  exact hQ ok B w a hx ⟨hh, ht, hm⟩ hl
 intro fuel
 induction fuel with
 | zero =>
  intro listed a w hI hc
  have hr : Region.ready md ops listed = [] := by
   cases hr : Region.ready md ops listed with
   | nil => rfl
   | cons i r =>
    have hi : i ∈ Region.ready md ops listed := by rw [hr]; simp
    obtain ⟨h1, h2, _⟩ := (mem_ready hI.size).1 hi
    exact absurd (cnt_zero ops.size (by omega) i h1) h2
  exact ⟨hr, done listed a w hI hr⟩
 | succ fuel ih =>
  intro listed a w hI hc
  refine ⟨fun hr => done listed a w hI hr, fun i hi => ?_⟩
  obtain ⟨hin, hnl, hedges⟩ := (mem_ready hI.size).1 hi
  have ho : ops[i]? = some (ops[i]'hin) := by simp
  generalize ops[i]'hin = o at ho
  have hcnt : cnt (listed.setIfInBounds i true) ops.size ≤ fuel := by
   have := cnt_set (listed := listed) (i := i) (by rw [hI.size]; exact hin) hnl ops.size
   rw [if_pos hin] at this; omega
  -- what is ahead is listed, what is behind is not
  have before : ∀ j, reach ops 8 i j = true → Lst listed j := fun j hr =>
   reach_listed hI.closed 8 i j (fun o' ho' e he hb => hedges o' ho' e he (binds_any hb)) hr
  have behind : ∀ j, reach ops 8 j i = true → ¬ Lst listed j := fun j hr hL =>
   hnl (reach_listed hI.closed 8 j i (fun o' ho' e he hb => hI.closed j o' hL ho' e he hb) hr)
  obtain ⟨k, ok, B, hk, hkl, hke, hx, hh, ht, hm, hl, hout⟩ := hI.ex
  have hTl : (TA Tr listed).length = (Tr.T i).length := by rw [TA_length, T_length Tr i (by omega)]
  have hagree : ∀ t ∈ o.looksAt ops, (TA Tr listed).getD t .poison = (Tr.T i).getD t .poison := by
   intro t hto
   by_cases htl : t < s.tmps.length
   ·rw [TA_getD Tr _ htl]
    refine W_agree Tr htl (by omega) fun j q hq' hd => ?_
    obtain ⟨c1, c2⟩ := confS_dst_looks hd hto
    rcases Nat.lt_trichotomy j i with hlt | rfl | hgt
    ·exact ⟨fun _ => hlt, fun _ => before j (hok.conf ho hq' hlt c1)⟩
    ·exact ⟨fun h => absurd h hnl, fun h => by omega⟩
    ·exact ⟨fun h => absurd h (behind j (hok.conf hq' ho hgt c2)), fun h => by omega⟩
   ·have hg1 : (TA Tr listed).length ≤ t := by rw [TA_length]; exact Nat.le_of_not_lt htl
    have hg2 : (Tr.T i).length ≤ t := by rw [T_length Tr i (by omega)]; exact Nat.le_of_not_lt htl
    rw [List.getD_eq_getElem?_getD, List.getD_eq_getElem?_getD, List.getElem?_eq_none hg1, List.getElem?_eq_none hg2]
  obtain ⟨hval, hTs⟩ := Tr.step i o ho
  rw [← valV_congr hTl hagree] at hval
  have hval0 := hval
  simp only [valV, Option.bind_eq_some_iff] at hval
  obtain ⟨b, hb, hval⟩ := hval
  have hwant := wanted_rel (l := a.tmps) hb ht
  have hkT : kindT E (TA Tr listed) o.op = kindT E (Tr.T i) o.op := by
   unfold kindT
   split
   ·rename_i f args ts heq
    rw [evalT_congr hagree f (by rw [heq]; simp [Op.operands, Call.operands])]
   ·rfl
  have hlate : ∀ j q, ops[j]? = some q → i < j → q.dst = o.dst → o.dst ≠ none → ¬ Lst listed j := by
   intro j q hq' hj hd hne
   cases hod : o.dst with
   | none => exact absurd hod hne
   | some t => exact behind j (hok.conf hq' ho hj (confS_same hod (by rw [hd, hod])))
  have hTA := TA_put Tr hI.size ho hnl hlate
  have hset : ∀ j, Lst (listed.setIfInBounds i true) j ↔ (j = i ∨ Lst listed j) := fun j => Lst_set (by rw [hI.size]; exact hin)
  have hclosed' : Closed ops (listed.setIfInBounds i true) := by
   intro j q hL hq' e he hbd
   rcases (hset j).1 hL with rfl | hL
   ·exact (hset _).2 (.inr (hedges q hq' e he (binds_any hbd)))
   ·exact (hset _).2 (.inr (hI.closed j q hL hq' e he hbd))
  have hsize' : (listed.setIfInBounds i true).size = ops.size := by simpa using hI.size
  -- an operation of kind e from the next on is not listed
  have late : ∀ m q, ops[m]? = some q → k ≤ m → kindT E (Tr.T m) q.op = .e → ¬ Lst listed m := by
   intro m q hq' hkm hkd hL
   rcases Nat.eq_or_lt_of_le hkm with rfl | hlt
   ·exact (hke q hq').2 hL
   ·have hoq : ops[k]? = some (ops[k]'(by have := (Array.getElem?_eq_some_iff.1 hq').1; omega)) := by simp
    obtain ⟨e1, e2⟩ := hke _ hoq
    exact e2 (reach_listed hI.closed 8 m k (fun o' ho' e he hb => hI.closed m o' hL ho' e he hb) (hok.ea hq' hoq hlt (.inl hkd) e1))
  -- behind an operation of kind e (or one not wanted) that is the next
  have next_e : ∀ (ok' : Nat → Nat → Prop) (B' : Bd) (w' : World) (v' : Value), i = k → kindT E (Tr.T i) o.op = .e → Ext ok0 B0 w0 ok' B' w' → HR ok' w' B' p (Tr.hp (i + 1)) → VRelL ok' w' B' (TA Tr listed) a.tmps.toList → VRel ok' w' B' (Tr.val i) v' →
    Marks base ok' B' w' a.defers → (Tr.hp (i + 1)).length = s.heap.length →
    (∀ m q, m < i → ops[m]? = some q → kindT E (Tr.T m) q.op = .a → wantedV ops (Tr.T m) q = some true → ¬ Lst listed m → ∀ j, (Tr.hp m).top.length ≤ j → j < (Tr.hp (m + 1)).top.length → B' 0 j = .out) →
    wpAnyIn F 0 E.P md ops Q fuel (listed.setIfInBounds i true) (a.put o.dst v') w' := by
   intro ok' B' w' v' hik hko hx' hh' ht' hv' hm' hl' hO
   refine ih _ _ _ ⟨hsize', hclosed', ?_⟩ hcnt
   obtain ⟨k', g1, g2, g3, g4, g5⟩ := advance Tr hS hq hE hKI (ops.size - (i + 1)) (i + 1) (by omega) hh'
   have hrange := range_not_e Tr hS hq hE hKI (i := i + 1) (k' - (i + 1)) (by omega) (fun m o h h' => g3 m o h (by omega))
   rw [show i + 1 + (k' - (i + 1)) = k' from by omega] at hrange
   refine ⟨k', ok', B', g2, fun j q hj hq' hkj => ?_, fun q hq' => ⟨g4 q hq', fun hL => ?_⟩, hx', g5, by rw [hTA]; exact put_rel ht' o.dst hv', by rw [put_defers]; exact hm', by rw [hrange.1]; exact hl', fun m' q hm1 hq' hka hw' hL j hj1 hj2 => ?_⟩
   ·rcases Nat.lt_trichotomy j i with hlt | rfl | hgt
    ·exact (hset j).2 (.inr (hkl j q (by omega) hq' hkj))
    ·exact (hset j).2 (.inl rfl)
    ·exact absurd hkj (g3 j q (by omega) hj hq')
   ·rcases (hset k').1 hL with rfl | hL
    ·omega
    ·exact late k' q hq' (by omega) (g4 q hq') hL
   ·by_cases hmi : m' < i
    ·exact hO m' q hmi hq' hka hw' (fun h => hL ((hset m').2 (.inr h))) j hj1 hj2
    have hmne : m' ≠ i := fun e => hL ((hset m').2 (.inl e))
    have hr2 := range_not_e Tr hS hq hE hKI (i := i + 1) (m' - (i + 1)) (by omega) (fun m o h h' => g3 m o h (by omega))
    rw [show i + 1 + (m' - (i + 1)) = m' from by omega] at hr2
    exact hh'.top_lt (Nat.le_trans (hr2.2 hh'.pos).2 hj1)
  -- behind any other
  have next_o : ∀ (ok' : Nat → Nat → Prop) (B' : Bd) (w' : World) (v' : Value), i ≠ k → Ext ok B w ok' B' w' → HR ok' w' B' p (Tr.hp k) → VRel ok' w' B' (Tr.val i) v' →
    (∀ m q, m < k → ops[m]? = some q → kindT E (Tr.T m) q.op = .a → wantedV ops (Tr.T m) q = some true → ¬ Lst listed m → m ≠ i → ∀ j, (Tr.hp m).top.length ≤ j → j < (Tr.hp (m + 1)).top.length → B' 0 j = .out) →
    wpAnyIn F 0 E.P md ops Q fuel (listed.setIfInBounds i true) (a.put o.dst v') w' := by
   intro ok' B' w' v' hik hx' hh' hv' hout'
   refine ih _ _ _ ⟨hsize', hclosed', k, ok', B', hk, fun j q hj hq' hkj => (hset j).2 (.inr (hkl j q hj hq' hkj)), fun q hq' => ⟨(hke q hq').1, fun hL => ?_⟩, hx.trans hx', hh', by rw [hTA]; exact put_rel (hx'.vrelL hh ht) o.dst hv',
    by rw [put_defers]; exact Marks.ext hm hx', hl, fun m' q hm1 hq' hka hw' hL => hout' m' q hm1 hq' hka hw' (fun h => hL ((hset m').2 (.inr h))) (fun e => hL ((hset m').2 (.inl e)))⟩ hcnt
   rcases (hset k).1 hL with h | h
   ·exact hik h.symm
   ·exact (hke q hq').2 h
  unfold wpOpIn
  simp only [ho, hwant]
  cases b with
  | false =>
   simp only [Bool.false_eq_true, if_false, Option.some.injEq, Prod.mk.injEq] at hval ⊢
   obtain ⟨hv1, hv2⟩ := hval
   have hu : VRel ok w B (Tr.val i) undef := by rw [← hv1]; simp only [V.undef, VRel]; exact ⟨[], rfl, rfl⟩
   refine ⟨fun f _ => hF.fn f, ?_⟩
   by_cases hik : i = k
   ·refine next_e ok B w undef hik (by rw [hik]; exact (hke o (by rw [← hik]; exact ho)).1) hx (by rw [← hv2, hik]; exact hh) ht hu hm (by rw [← hv2, hik]; exact hl) fun m q h1 h2 h3 h4 h5 => hout m q (by omega) h2 h3 h4 h5
   ·exact next_o ok B w undef hik (Ext.refl ok B w) hh hu fun m q h1 h2 h3 h4 h5 _ => hout m q h1 h2 h3 h4 h5
  | true =>
   simp only [if_true] at hval ⊢
   by_cases hko : kindT E (Tr.T i) o.op = .e
   ·have hik : i = k := by
     rcases Nat.lt_trichotomy i k with hlt | h | hgt
     ·exact absurd (hkl i o hlt ho hko) hnl
     ·exact h
     ·have hoq : ops[k]? = some (ops[k]'(by omega)) := by simp
      obtain ⟨e1, e2⟩ := hke _ hoq
      exact absurd (before k (hok.ea ho hoq hgt (.inl hko) e1)) e2
    have hh2 : HR ok w B p (Tr.hp i) := by rw [hik]; exact hh
    refine oper_sound hS hq hE hK hKI hF hval hh2 ht ?_
    intro ok' B' w' v' hA
    let S : Nat → Prop := fun j => ∃ m q, m < i ∧ ops[m]? = some q ∧ kindT E (Tr.T m) q.op = .a ∧ wantedV ops (Tr.T m) q = some true ∧ ¬ Lst listed m ∧ (Tr.hp m).top.length ≤ j ∧ j < (Tr.hp (m + 1)).top.length
    have hSout : ∀ j, S j → B 0 j = .out := fun j ⟨m, q, h1, h2, h3, h4, h5, h6, h7⟩ => hout m q (by omega) h2 h3 h4 h5 j h6 h7
    have hSn : ∀ j, S j → Heap.noRef j (Tr.hp (i + 1)) = true ∧ V.noRef j (Tr.val i) = true := fun j ⟨m, q, h1, h2, h3, h4, h5, h6, h7⟩ => by
     rcases hok.ae ho h2 h1 hko h3 with h | h
     ·exact absurd (before m h) h5
     ·exact ((hok.new h).2.2 j h6 h7).2
    have hxe := hA.ext.hide hSout
    exact next_e ok' _ w' v' hik hko (hx.trans hxe) (hA.heap.hide fun j hj => (hSn j hj).1) (hxe.vrelL hh2 ht) (VRel.hide _ _ (fun j hj => (hSn j hj).2) hA.val) (Marks.ext hm hxe) (by rw [hA.len, hik]; exact hl)
     fun m q h1 h2 h3 h4 h5 j h6 h7 => Bd.hide_in (S := S) ⟨m, q, h1, h2, h3, h4, h5, h6, h7⟩
   ·have hne : i ≠ k := fun e => hko (by rw [e]; exact (hke o (by rw [← e]; exact ho)).1)
    have hlen : ∀ j, j ≤ k → i ≤ j → (∀ m q, i ≤ m → m < j → ops[m]? = some q → kindT E (Tr.T m) q.op ≠ .e) → (Tr.hp j).length = (Tr.hp i).length ∧ (0 < (Tr.hp i).length → Above (Tr.hp i) (Tr.hp j) ∧ (Tr.hp i).top.length ≤ (Tr.hp j).top.length) := by
     intro j hj hij hno
     have := range_not_e Tr hS hq hE hKI (i := i) (j - i) (by omega) (fun m q h1 h2 => hno m q h1 (by omega))
     rwa [show i + (j - i) = j from by omega] at this
    cases hkk : kindT E (Tr.T i) o.op with
    | e => exact absurd hkk hko
    | n =>
     have hn := (oper_n (by rw [hkT]; exact hkk) hval).2 (Tr.hp k)
     exact wp_nr hS hq hE hKI hF (.inl (by rw [hkT]; exact hkk)) hn hh ht fun ok' w' c hx' hh' hv' => next_o ok' B w' c hne hx' hh' hv' fun m q h1 h2 h3 h4 h5 _ => hout m q h1 h2 h3 h4 h5
    | r =>
     have hrk : operV E rec (TA Tr listed) (Tr.hp k) o.op = some (Tr.val i, Tr.hp k) := by
      -- what of kind e lies between is a store to another block
      have hbt : ∀ m q, ops[m]? = some q → kindT E (Tr.T m) q.op = .e → ((i < m ∧ m < k) ∨ (k ≤ m ∧ m < i)) → U i m := by
       intro m q hq' hkd hbt
       obtain ⟨c1, c2⟩ := hok.re ho hq' hkk hkd
       rcases hbt with ⟨h1, h2⟩ | ⟨h1, h2⟩
       ·rcases c1 h1 with h | h
        ·exact absurd (hkl m q h2 hq' hkd) (behind m h)
        ·exact h
       ·rcases c2 h2 with h | h
        ·exact absurd (before m h) (late m q hq' h1 hkd)
        ·exact h
      by_cases hno : ∃ m q, ops[m]? = some q ∧ kindT E (Tr.T m) q.op = .e ∧ ((i < m ∧ m < k) ∨ (k ≤ m ∧ m < i))
      ·obtain ⟨m0, q0, hq0, hk0, hb0⟩ := hno
       obtain ⟨t, x, hop, hld⟩ := hok.load ho hkk hk hne (fun q hq' => (hke q hq').1) hh.pos hbt m0 q0 hq0 hk0 hb0
       have hA : evalT (TA Tr listed) x = evalT (Tr.T i) x := evalT_congr hagree x (by rw [hop]; simp [Op.operands])
       rw [hop] at hval ⊢
       simp only [operV, opV, Option.map_eq_some_iff, Prod.mk.injEq] at hval ⊢
       obtain ⟨v1, hv1, rfl', _⟩ := hval
       rw [hA] at hv1 ⊢
       exact ⟨v1, hld v1 hv1, rfl', trivial⟩
      ·have hno' : ∀ m q, ops[m]? = some q → ((i < m ∧ m < k) ∨ (k ≤ m ∧ m < i)) → kindT E (Tr.T m) q.op ≠ .e := fun m q h1 h2 h3 => hno ⟨m, q, h1, h3, h2⟩
       have hlt : i < k := by
        rcases Nat.lt_or_gt_of_ne hne with h | h
        ·exact h
        ·have hoq : ops[k]? = some (ops[k]'(by omega)) := by simp
         exact absurd (hke _ hoq).1 (hno' k _ hoq (.inr ⟨Nat.le_refl _, h⟩))
       obtain ⟨l1, l2⟩ := hlen k (Nat.le_refl _) (by omega) fun m q h1 h2 hq' => by
        rcases Nat.eq_or_lt_of_le h1 with rfl | h
        ·rw [ho] at hq'; simp only [Option.some.injEq] at hq'; subst hq'; exact hko
        ·exact hno' m q hq' (.inl ⟨h, h2⟩)
       exact (oper_r (by rw [hkT]; exact hkk) hval).2 _ (l2 (by rw [← l1]; exact hh.pos)).1
     exact wp_nr hS hq hE hKI hF (.inr (by rw [hkT]; exact hkk)) hrk hh ht fun ok' w' c hx' hh' hv' => next_o ok' B w' c hne hx' hh' hv' fun m q h1 h2 h3 h4 h5 _ => hout m q h1 h2 h3 h4 h5
    | a =>
     have hlt : i < k := by
      rcases Nat.lt_or_gt_of_ne hne with h | h
      ·exact h
      ·have hoq : ops[k]? = some (ops[k]'(by omega)) := by simp
       obtain ⟨e1, e2⟩ := hke _ hoq
       exact absurd (before k (hok.ea ho hoq h (.inr hkk) e1)) e2
     -- what stands ahead of a new variable that is not made yet, and has been done
     have two : ∀ m q n q', ops[m]? = some q → kindT E (Tr.T m) q.op = .a → ¬ Lst listed m → ops[n]? = some q' → kindT E (Tr.T n) q'.op = .e → m < n → n < k → W n m := fun m q n q' h1 h2 h3 h4 h5 h6 h7 => by
      rcases hok.ae h4 h1 h6 h5 h2 with h | h
      ·exact absurd (reach_listed hI.closed 8 n m (fun o'' ho'' e he hbd => hI.closed n o'' (hkl n q' h7 h4 h5) ho'' e he hbd) h) h3
      ·exact h
     -- its block stays
     have stays : ∀ m q, ops[m]? = some q → kindT E (Tr.T m) q.op = .a → ¬ Lst listed m → ∀ j, (Tr.hp m).top.length ≤ j → j < (Tr.hp (m + 1)).top.length → ∀ b, (Tr.hp (m + 1)).get 0 j = some b → ∀ d, m + 1 + d ≤ k → (Tr.hp (m + 1 + d)).get 0 j = some b := by
      intro m q hm' hka hnlm j hj1 hj2 b hb d
      induction d with
      | zero => intro _; exact hb
      | succ d ihd =>
       intro hd
       have hprev := ihd (by omega)
       have hod : ops[m + 1 + d]? = some (ops[m + 1 + d]'(by omega)) := by simp
       by_cases hked : kindT E (Tr.T (m + 1 + d)) (ops[m + 1 + d]'(by omega)).op = .e
       ·have hW := two m q (m + 1 + d) _ hm' hka hnlm hod hked (by omega) (by omega)
        rw [show m + 1 + (d + 1) = m + 1 + d + 1 from by omega, ((hok.new hW).2.2 j hj1 hj2).1]
        exact hprev
       ·have hst := (Tr.step (m + 1 + d) _ hod).1
        obtain ⟨blks, h1 | h1⟩ := step_not_e hS hq hE hKI hked hst
        ·rcases Nat.eq_zero_or_pos (Tr.hp (m + 1 + d)).length with h0 | hp0
         ·have hnil : Tr.hp (m + 1 + d) = [] := List.length_eq_zero_iff.1 h0
          rw [show m + 1 + (d + 1) = m + 1 + d + 1 from by omega, h1, hnil]
          rw [hnil] at hprev
          exact hprev
         ·rw [show m + 1 + (d + 1) = m + 1 + d + 1 from by omega, h1]
          exact Above.pushes hp0 blks _ _ _ hprev
        ·rw [show m + 1 + (d + 1) = m + 1 + d + 1 from by omega, h1]; exact hprev
     have below : ∀ m q, ops[m]? = some q → kindT E (Tr.T m) q.op = .a → ¬ Lst listed m → ∀ j, (Tr.hp m).top.length ≤ j → j < (Tr.hp (m + 1)).top.length → ∀ n, m < n → n ≤ k → j < (Tr.hp n).top.length := by
      intro m q hm' hka hnlm j hj1 hj2 n hmn hn
      obtain ⟨b, hb⟩ := Heap.get_some_of_lt hj2
      have := stays m q hm' hka hnlm j hj1 hj2 b hb (n - (m + 1)) (by omega)
      rw [show m + 1 + (n - (m + 1)) = n from by omega] at this
      exact Heap.lt_of_get_some this
     have hwT : wantedV ops (Tr.T i) o = some true := by rw [← wanted_congr hTl hagree]; exact hb
     have hBo : ∀ j, (Tr.hp i).top.length ≤ j → j < (Tr.hp (i + 1)).top.length → B 0 j = .out := hout i o hlt ho hkk hwT hnl
     by_cases hmid : ∃ n q, i < n ∧ n < k ∧ ops[n]? = some q ∧ kindT E (Tr.T n) q.op = .e
     ·obtain ⟨n, q, g1, g2, g3, g4⟩ := hmid
      obtain ⟨hpi, ⟨q2, elem, g5, g6⟩, _⟩ := hok.new (two i o n q ho hkk hnl g3 g4 g1 g2)
      rw [ho] at g5
      simp only [Option.some.injEq] at g5
      subst g5
      obtain ⟨blk, hv2, hA⟩ := oper_alloc (p := p) g6 hval
      have htop1 : (Tr.hp (i + 1)).top.length = (Tr.hp i).top.length + 1 := by rw [hv2, Heap.top_setTop hpi]; simp
      have hb0 : (Tr.hp (i + 1)).get 0 (Tr.hp i).top.length = some blk := by
       rw [hv2, Heap.get_setTop hpi, if_pos rfl, List.getElem?_append_right (by omega)]; simp
      have hgk := stays i o ho hkk hnl _ (Nat.le_refl _) (by omega) blk hb0 (k - (i + 1)) (by omega)
      rw [show i + 1 + (k - (i + 1)) = k from by omega] at hgk
      refine hA F (Tr.hp k) ok B w a _ Q hF hh (hBo _ (Nat.le_refl _) (by omega)) hgk ht fun ok' B' w' c hx' hh' hv' hkeep => ?_
      refine next_o ok' B' w' c hne hx' hh' hv' fun m q h1 h2 h3 h4 h5 h6 j hj1 hj2 => ?_
      rw [hkeep 0 j fun hc => ?_]
      ·exact hout m q h1 h2 h3 h4 h5 j hj1 hj2
      ·obtain ⟨_, hc⟩ := hc
       rcases Nat.lt_or_gt_of_ne h6 with hmi | hmi
       ·have := below m q h2 h3 h5 j hj1 hj2 i hmi (by omega)
        omega
       ·have := below i o ho hkk hnl (Tr.hp i).top.length (Nat.le_refl _) (by omega) m hmi (by omega)
        omega
     ·have hnoe : ∀ m q, i ≤ m → m < k → ops[m]? = some q → kindT E (Tr.T m) q.op ≠ .e := by
       intro m q h1 h2 hq' hkq
       rcases Nat.eq_or_lt_of_le h1 with rfl | h
       ·rw [ho] at hq'; simp only [Option.some.injEq] at hq'; subst hq'; exact hko hkq
       ·exact hmid ⟨m, q, h, h2, hq', hkq⟩
      obtain ⟨l1, l2⟩ := hlen k (Nat.le_refl _) (by omega) hnoe
      have hpi : 0 < (Tr.hp i).length := by rw [← l1]; exact hh.pos
      obtain ⟨blks, hv2, hA⟩ := oper_a hS hq hE hKI (by rw [hkT]; exact hkk) hval
      have htop1 : (Tr.hp (i + 1)).top.length = (Tr.hp i).top.length + blks.length := by rw [hv2, Heap.top_setTop hpi]; simp
      have hr1 := range_not_e Tr hS hq hE hKI (i := i + 1) (k - (i + 1)) (by omega) (fun m q h1 h2 => hnoe m q (by omega) (by omega))
      rw [show i + 1 + (k - (i + 1)) = k from by omega] at hr1
      have hpi1 : 0 < (Tr.hp (i + 1)).length := by rw [← hr1.1]; exact hh.pos
      refine hA F (Tr.hp k) ok B w a _ Q hF (l2 hpi).1 hh (fun j hj => hBo _ (by omega) (by omega)) (fun j b hb => ?_) ht fun ok' B' w' c hx' hh' hv' hkeep => ?_
      ·refine (hr1.2 hpi1).1 _ _ _ ?_
       rw [hv2, Heap.get_setTop hpi, if_pos rfl, List.getElem?_append_right (by omega)]
       rw [show (Tr.hp i).top.length + j - (Tr.hp i).top.length = j from by omega]; exact hb
      ·refine next_o ok' B' w' c hne hx' hh' hv' fun m q h1 h2 h3 h4 h5 h6 j hj1 hj2 => ?_
       rw [hkeep 0 j fun hc => ?_]
       ·exact hout m q h1 h2 h3 h4 h5 j hj1 hj2
       ·obtain ⟨_, hc1, hc2⟩ := hc
        rcases Nat.lt_or_gt_of_ne h6 with hmi | hmi
        ·have := below m q h2 h3 h5 j hj1 hj2 i hmi (by omega)
         omega
        ·have := below i o ho hkk hnl j hc1 (by omega) m hmi (by omega)
         omega
end
section
variable {m : Nat} (hS : Sound E.P p rec m) (hq : EqOk E) (hE : FnOk E p) (hK : KnownOk E p) (hKI : KnownIn E)
include hS hq hE hK hKI
theorem draw_core (md : Region.Mode) (he : opsV E rec ops ops.toList s = some s') (hpo : ∀ Tr : Trace E rec ops s s', ∃ U W, PO Tr U W) {F : Fence} (hF : FW F) {base : Base} {ok : Nat → Nat → Prop} {B : Bd} {w : World} {a : Act} {Q : Exit → Act → World → Prop}
  (hs : SR p base s ok B w a) (hQ : ∀ ok' B' w' a', Ext ok B w ok' B' w' → SR p base s' ok' B' w' a' → s'.heap.length = s.heap.length → Q .normal a' w') : wpAnyIn F 0 E.P md ops Q ops.size (Array.replicate ops.size false) a w.drew := by
 let Tr := Trace.of he
 obtain ⟨U, W, hU⟩ := hpo Tr
 have hx := Ext.drew ok B w
 have hh0 : HR ok w.drew B p (Tr.hp 0) := by rw [Tr.h0]; exact hs.heap.drew
 obtain ⟨k, _, g2, g3, g4, g5⟩ := advance Tr hS hq hE hKI ops.size 0 (by omega) hh0
 have hnl : ∀ i, ¬ Lst (Array.replicate ops.size false) i := by
  intro i h
  unfold Lst at h
  rw [Array.getElem?_replicate] at h
  split at h <;> simp at h
 have hr := range_not_e Tr hS hq hE hKI (i := 0) k (by omega) (fun m o h h' => g3 m o h (by omega))
 rw [Nat.zero_add] at hr
 refine inv_run Tr hS hq hE hK hKI hU md hF (base := base) (ok0 := ok) (B0 := B) (w0 := w) (Q := Q) Tr.fn hQ ops.size _ a w.drew ⟨by simp, fun i o h => absurd h (hnl i), k, ok, B, g2, fun j o hj ho hk => absurd hk (g3 j o (by omega) hj ho), fun o ho => ⟨g4 o ho, hnl k⟩, hx, g5, ?_, Marks.ext hs.marks hx, by rw [hr.1, Tr.h0], ?_⟩ ?_
 ·have : TA Tr (Array.replicate ops.size false) = s.tmps := by
   rw [← Tr.T0]
   apply List.ext_getElem
   ·rw [TA_length, T_length Tr 0 (by omega)]
   ·intro t h1 h2
    have htl : t < s.tmps.length := by rw [TA_length] at h1; exact h1
    have e1 : (TA Tr (Array.replicate ops.size false))[t] = (TA Tr (Array.replicate ops.size false)).getD t .poison := by rw [List.getD_eq_getElem?_getD, List.getElem?_eq_getElem h1]; rfl
    have e2 : (Tr.T 0)[t] = (Tr.T 0).getD t .poison := by rw [List.getD_eq_getElem?_getD, List.getElem?_eq_getElem h2]; rfl
    rw [e1, e2, TA_getD Tr _ htl]
    exact W_agree Tr htl (by omega) fun j o ho _ => ⟨fun h => absurd h (hnl j), fun h => by omega⟩
  rw [this]
  exact hx.vrelL hs.heap hs.tmps
 ·intro m o hm1 ho hka hw _ j hj1 hj2
  have hrm := range_not_e Tr hS hq hE hKI (i := 0) m (by omega) (fun m' o' h h' => g3 m' o' h (by omega))
  rw [Nat.zero_add] at hrm
  exact hh0.top_lt (Nat.le_trans (hrm.2 hh0.pos).2 hj1)
 ·have : ∀ m, cnt (Array.replicate ops.size false) m = m := by
   intro m
   induction m with
   | zero => rfl
   | succ m ih => simp only [cnt]; rw [if_neg (hnl m), ih]
  rw [this]; exact Nat.le_refl _
theorem draw_sound (hok : regOkD E ops s'.tmps = true) (id : Nat) (he : opsV E rec ops ops.toList s = some s') {F : Fence} (hF : FW F) {base : Base} {ok : Nat → Nat → Prop} {B : Bd} {w : World} {a : Act} {Q : Exit → Act → World → Prop}
  (hs : SR p base s ok B w a) (hQ : ∀ ok' B' w' a', Ext ok B w ok' B' w' → SR p base s' ok' B' w' a' → s'.heap.length = s.heap.length → Q .normal a' w') : (Code.region id ops true).wpIn F 0 E.P Q a w := by
 refine wpIn_region_draw fun t => ?_
 have key : ∀ md t, wpOpsIn F 0 E.P ops Q (Region.linearise md ops t) a { w with drawn := w.drawn + 1 } := by
  intro md t
  unfold Region.linearise
  refine wpAnyIn_sound ops.size t _ a _ ?_
  exact draw_core hS hq hE hK hKI md he (fun Tr => ⟨_, _, po_static Tr hS hq hE hKI hok⟩) hF hs hQ
 unfold Region.schedule
 split
 ·exact key .any t
 ·exact key _ _
end
end
end Go.Sim
end
section
namespace Go.Sim
open Go
theorem ev_sound {E : Env} (hq : EqOk E) (hE : FnOk E (fun _ => true)) (hK : KnownOk E (fun _ => true)) (hKI : KnownIn E) : ∀ n, Sound E.P (fun _ => true) (ev E n) n
 | 0 => ⟨fun c s e s' he => by simp [ev] at he, fun c s e s' he => by simp [ev] at he⟩
 | n + 1 => ev_step (ev_sound hq hE hK hKI n) hq hE hK hKI fun id ops s s' hp he F base ok B w a Q hF hs hQ =>
   draw_sound (ev_sound hq hE hK hKI n) hq hE hK hKI hp id he hF hs hQ
end Go.Sim
end
section
namespace Go.Sim
open Go
def Fs {α : Type} (F : Rec → Option α) : Prop := ∀ rec r, F rec = some r → ∃ L : List (Code × St × Exit × St), (∀ q ∈ L, rec q.1 q.2.1 = some q.2.2) ∧ ∀ rec', (∀ q ∈ L, rec' q.1 q.2.1 = some q.2.2) → F rec' = some r
section
variable {α β : Type}
theorem Fs.const (o : Option α) : Fs fun _ => o := fun _ r h => ⟨[], by simp, fun _ _ => h⟩
theorem Fs.rec (c : Code) (s : St) : Fs fun rec => rec c s := fun rec r h => ⟨[(c, s, r)], by simpa using h, fun rec' h' => by simpa using h'⟩
theorem Fs.bind {F : Rec → Option α} {G : α → Rec → Option β} (hF : Fs F) (hG : ∀ x, Fs (G x)) : Fs fun rec => (F rec).bind fun x => G x rec := by
 intro rec r h
 obtain ⟨x, hx, hr⟩ := Option.bind_eq_some_iff.1 h
 obtain ⟨L1, h1, h2⟩ := hF rec x hx
 obtain ⟨L2, h3, h4⟩ := hG x rec r hr
 refine ⟨L1 ++ L2, fun q hq => (List.mem_append.1 hq).elim (h1 q) (h3 q), fun rec' h' => ?_⟩
 show (F rec').bind (fun x => G x rec') = some r
 rw [h2 rec' fun q hq => h' q (List.mem_append_left _ hq)]
 exact h4 rec' fun q hq => h' q (List.mem_append_right _ hq)
theorem Fs.map {F : Rec → Option α} (f : α → β) (hF : Fs F) : Fs fun rec => (F rec).map f := by
 have := Fs.bind hF (G := fun x _ => some (f x)) fun x => Fs.const _
 simpa [Option.map_eq_bind, Function.comp_def] using this
theorem Fs.congr {F G : Rec → Option α} (h : ∀ rec, F rec = G rec) (hG : Fs G) : Fs F := by
 have : F = G := funext h
 rw [this]; exact hG
theorem Fs.ite {c : Prop} [Decidable c] {F G : Rec → Option α} (hF : Fs F) (hG : Fs G) : Fs fun rec => if c then F rec else G rec := by
 by_cases h : c
 ·simpa [h] using hF
 ·simpa [h] using hG
end
section
variable (E : Env)
theorem bodyV_fs (f : FuncId) (args : List V) (h : Heap) : Fs fun rec => bodyV E rec f args h := by
 unfold bodyV
 refine Fs.ite ?_ (Fs.const _)
 cases E.P.funcs[f]? with
 | none => exact Fs.const _
 | some fn =>
  dsimp only
  cases fn.body with
  | none => exact Fs.const _
  | some c =>
   dsimp only
   refine Fs.congr (G := fun rec => (rec c { fn := f, tmps := args ++ List.replicate (fn.ntmps - args.length) .poison, heap := h }).bind fun x =>
    match x with | (.normal, s) | (.ret, s) => (resultsV E.P s fn.results.toList).map fun l => (joinV l, s.heap) | _ => none) ?_ ?_
   ·intro rec
    cases rec c { fn := f, tmps := args ++ List.replicate (fn.ntmps - args.length) .poison, heap := h } with
    | none => rfl
    | some x => obtain ⟨e, s⟩ := x; cases e <;> rfl
   ·exact Fs.bind (Fs.rec _ _) fun x => Fs.const _
theorem pureV_fs (f : FuncId) (lent : Bool) (args : List V) : Fs fun rec => pureV E rec f lent args := by
 unfold pureV
 exact Fs.bind (bodyV_fs E f args [[]]) fun x => Fs.const _
theorem callV_fs (f : FuncId) (args : List V) (h : Heap) : Fs fun rec => callV E rec f args h := by
 unfold callV
 cases E.known f with
 | some F => exact Fs.const _
 | none =>
  dsimp only
  cases E.mode f with
  | pure => exact Fs.bind (Fs.const _) fun a => Fs.map _ (pureV_fs E f _ a)
  | own => exact Fs.bind (Fs.const _) fun a => Fs.bind (bodyV_fs E f a [[]]) fun x => Fs.const _
  | heap => exact Fs.bind (bodyV_fs E f _ _) fun x => Fs.const _
  | live => exact Fs.bind (bodyV_fs E f _ _) fun x => Fs.const _
  | inl => exact bodyV_fs E f _ _
theorem roundV_fs (d j : Nat) (args : List V) (h : Heap) : Fs fun rec => roundV rec d j args h := by
 unfold roundV
 split
 ·rename_i fn tmps ps assign body hg
  refine Fs.ite ?_ (Fs.const _)
  refine Fs.bind (Fs.const _) fun args' => ?_
  refine Fs.congr (G := fun rec => (rec assign { fn, tmps := setArgs tmps ps args', heap := h.drop d }).bind fun x =>
   match x with
   | (.normal, s1) =>
    match s1.heap.get 0 j with
    | some (.loop fn' tmps' ps' a' b' true none) =>
     (rec body { s1 with heap := s1.heap.set 0 j (.loop fn' tmps' ps' a' b' false none) }).bind fun y =>
      let jump : Option (Option Code) := match y.1 with | .normal => some none | .ret => some (some .ret) | .exit id => some (some (.exit id)) | .goto l => some (some (.goto l)) | _ => none
      jump.bind fun p =>
      match y.2.heap.get 0 j with
      | some (.loop fn2 tmps2 ps2 a2 b2 _ _) =>
       let s3 := (St.mk y.2.fn [] (y.2.heap.set 0 j (.loop fn2 tmps2 ps2 a2 b2 p.isNone p))).trim (Heap.top (h.drop d)).length
       some (.bool p.isNone, h.take d ++ s3.heap)
      | _ => none
    | _ => none
   | _ => none) ?_ ?_
  ·intro rec
   cases rec assign { fn, tmps := setArgs tmps ps args', heap := h.drop d } with
   | none => rfl
   | some x =>
    obtain ⟨e, s⟩ := x
    cases e <;> try rfl
    simp only [Option.bind_some]
    generalize s.heap.get 0 j = ob
    cases ob with
    | none => rfl
    | some b =>
     cases b with
     | row _ _ _ _ _ => rfl
     | dead => rfl
     | mp _ => rfl
     | it _ _ _ _ => rfl
     | loop fn' tmps' ps' a' b' ready pend =>
      cases ready <;> cases pend <;> try rfl
      dsimp only
      cases rec body { s with heap := s.heap.set 0 j (.loop fn' tmps' ps' a' b' false none) } with
      | none => rfl
      | some y => obtain ⟨e2, s2⟩ := y; rfl
  ·refine Fs.bind (Fs.rec _ _) fun x => ?_
   obtain ⟨e, s⟩ := x
   cases e <;> try exact Fs.const _
   dsimp only
   split
   ·exact Fs.bind (Fs.rec _ _) fun y => Fs.const _
   ·exact Fs.const _
 ·exact Fs.const _
theorem applyV_fs (f : V) (args : List V) (h : Heap) : Fs fun rec => applyV E rec f args h := by
 unfold applyV
 split
 ·exact callV_fs E _ _ _
 ·exact roundV_fs _ _ _ _
 ·exact Fs.const _
theorem operV_fs (tmps : List V) (h : Heap) (o : Op) : Fs fun rec => operV E rec tmps h o := by
 unfold operV
 split
 ·exact applyV_fs E _ _ _
 ·exact Fs.bind (Fs.const _) fun x => callV_fs E _ _ _
 ·exact Fs.const _
theorem opsV_fs (ops : Array Oper) : ∀ (l : List Oper) (s : St), Fs fun rec => opsV E rec ops l s
 | [], s => by unfold opsV; exact Fs.const _
 | o :: r, s => by
  unfold opsV
  refine Fs.bind (Fs.const _) fun w => ?_
  refine Fs.ite ?_ (opsV_fs ops r _)
  exact Fs.bind (operV_fs E _ _ _) fun x => opsV_fs ops r _
theorem evStep_fs (c : Code) (s : St) : Fs fun rec => evStep E rec c s := by
 cases c with
 | skip => exact Fs.const _
 | region id ops draw => exact Fs.bind (opsV_fs E ops ops.toList s) fun s' => Fs.const _
 | seq a b =>
  refine Fs.congr (G := fun rec => (rec a s).bind fun x => match x with | (.normal, s') => rec b s' | r => some r) ?_ ?_
  ·intro rec
   simp only [evStep]
   cases rec a s with
   | none => rfl
   | some x => obtain ⟨e, s1⟩ := x; cases e <;> rfl
  ·refine Fs.bind (Fs.rec _ _) fun x => ?_
   obtain ⟨e, s1⟩ := x
   cases e <;> first | exact Fs.rec _ _ | exact Fs.const _
 | cond x a b =>
  simp only [evStep]
  split
  ·exact Fs.rec _ _
  ·exact Fs.const _
 | block id c =>
  refine Fs.congr (G := fun rec => (rec c s).bind fun x => match x with | (.exit i, s') => if i = id then some (.normal, s') else some (.exit i, s') | r => some r) ?_ ?_
  ·intro rec
   simp only [evStep]
   cases rec c s with
   | none => rfl
   | some x => obtain ⟨e, s1⟩ := x; cases e <;> rfl
  ·exact Fs.bind (Fs.rec _ _) fun x => Fs.const _
 | loop body =>
  refine Fs.bind (Fs.const _) fun s0 => ?_
  refine Fs.congr (G := fun rec => (rec body s0).bind fun x => match x with | (.normal, s') => rec (.loop body) ((forgets (E.hint s.fn ((firstRegion body).getD 0)) s').trim s0.heap.top.length) | r => some r) ?_ ?_
  ·intro rec
   cases rec body s0 with
   | none => rfl
   | some x => obtain ⟨e, s1⟩ := x; cases e <;> rfl
  ·refine Fs.bind (Fs.rec _ _) fun x => ?_
   obtain ⟨e, s1⟩ := x
   cases e <;> first | exact Fs.rec _ _ | exact Fs.const _
 | rangeFunc f ps assign body =>
  refine Fs.bind (Fs.const _) fun s0 => ?_
  dsimp only
  refine Fs.bind ?_ fun x => ?_
  ·split
   ·exact callV_fs E _ _ _
   ·exact Fs.const _
  ·split
   ·refine Fs.ite ?_ (Fs.const _)
    rename_i p _
    cases p with
    | none => exact Fs.const _
    | some c => exact Fs.rec _ _
   ·exact Fs.const _
 | exit id => exact Fs.const _
 | scope c =>
  refine Fs.congr (G := fun rec => (rec c s).bind fun x => match x with
   | (.goto l, s') => (match findLabel c l with
    | some rest => (rec rest s').bind fun y => match y with | (.goto _, _) => none | r => some r
    | none => none)
   | r => some r) ?_ ?_
  ·intro rec
   simp only [evStep]
   cases rec c s with
   | none => rfl
   | some x =>
    obtain ⟨e, s1⟩ := x
    cases e <;> try rfl
    simp only [Option.bind_some]
    rename_i l
    cases findLabel c l with
    | none => rfl
    | some rest =>
     dsimp only
     cases rec rest s1 with
     | none => rfl
     | some y => obtain ⟨e2, s2⟩ := y; cases e2 <;> rfl
  ·refine Fs.bind (Fs.rec _ _) fun x => ?_
   obtain ⟨e, s1⟩ := x
   cases e <;> try exact Fs.const _
   dsimp only
   split
   ·exact Fs.bind (Fs.rec _ _) fun y => Fs.const _
   ·exact Fs.const _
 | label l => exact Fs.const _
 | goto l => exact Fs.const _
 | ret => exact Fs.const _
 | refuse w => exact Fs.const _
theorem Fs.mono {α : Type} {F : Rec → Option α} (hF : Fs F) {rec rec' : Rec} (h : ∀ c s r, rec c s = some r → rec' c s = some r) {r : α} (hr : F rec = some r) : F rec' = some r := by
 obtain ⟨L, h1, h2⟩ := hF rec r hr
 exact h2 rec' fun q hq => h _ _ _ (h1 q hq)
theorem ev_succ : ∀ (n : Nat) (c : Code) (s : St) (r : Exit × St), ev E n c s = some r → ev E (n + 1) c s = some r
 | 0, c, s, r, h => by simp [ev] at h
 | n + 1, c, s, r, h => Fs.mono (evStep_fs E c s) (ev_succ n) h
theorem ev_mono {n m : Nat} (hnm : n ≤ m) {c : Code} {s : St} {r : Exit × St} (h : ev E n c s = some r) : ev E m c s = some r := by
 induction hnm with
 | refl => exact h
 | step _ ih => exact ev_succ E _ _ _ _ ih
open Classical in
noncomputable def om : Rec := fun c s => if h : ∃ n r, ev E n c s = some r then some h.choose_spec.choose else none
theorem om_iff {c : Code} {s : St} {r : Exit × St} : om E c s = some r ↔ ∃ n, ev E n c s = some r := by
 unfold om
 constructor
 ·intro h
  split at h
  ·rename_i hh
   simp only [Option.some.injEq] at h
   exact ⟨hh.choose, by rw [← h]; exact hh.choose_spec.choose_spec⟩
  ·cases h
 ·rintro ⟨n, h⟩
  have hh : ∃ n r, ev E n c s = some r := ⟨n, r, h⟩
  rw [dif_pos hh]
  have h1 := ev_mono E (Nat.le_max_left hh.choose n) hh.choose_spec.choose_spec
  have h2 := ev_mono E (Nat.le_max_right hh.choose n) h
  rw [h1] at h2
  exact h2
theorem Fs.fuel {α : Type} {F : Rec → Option α} (hF : Fs F) {r : α} (h : F (om E) = some r) : ∃ n, F (ev E n) = some r := by
 obtain ⟨L, h1, h2⟩ := hF _ r h
 have : ∀ L : List (Code × St × Exit × St), (∀ q ∈ L, om E q.1 q.2.1 = some q.2.2) → ∃ n, ∀ q ∈ L, ev E n q.1 q.2.1 = some q.2.2 := by
  intro L
  induction L with
  | nil => exact fun _ => ⟨0, by simp⟩
  | cons q L ih =>
   intro hq
   obtain ⟨n, hn⟩ := ih fun q' hq' => hq q' (List.mem_cons_of_mem _ hq')
   obtain ⟨m, hm⟩ := (om_iff E).1 (hq q (List.mem_cons_self ..))
   refine ⟨max n m, fun q' hq' => ?_⟩
   rcases List.mem_cons.1 hq' with rfl | h'
   ·exact ev_mono E (Nat.le_max_right _ _) hm
   ·exact ev_mono E (Nat.le_max_left _ _) (hn q' h')
 obtain ⟨n, hn⟩ := this L h1
 exact ⟨n, h2 _ hn⟩
theorem om_step (c : Code) (s : St) : om E c s = evStep E (om E) c s := by
 apply Option.ext
 intro r
 constructor
 ·intro h
  obtain ⟨n, hn⟩ := (om_iff E).1 h
  cases n with
  | zero => simp [ev] at hn
  | succ n => exact Fs.mono (evStep_fs E c s) (fun c s r h => (om_iff E).2 ⟨n, h⟩) hn
 ·intro h
  obtain ⟨n, hn⟩ := Fs.fuel E (evStep_fs E c s) h
  exact (om_iff E).2 ⟨n + 1, hn⟩
end
end Go.Sim
end
section
namespace Go.Sim
open Go
set_option linter.unnecessarySimpa false
def slot : List V → Nat → V
 | [], _ => .poison
 | v :: _, 0 => v
 | _ :: l, n + 1 => slot l n
def put : List V → Nat → V → List V
 | [], _, _ => []
 | _ :: l, 0, x => x :: l
 | v :: l, n + 1, x => v :: put l n x
def putO : List V → Option Tmp → V → List V
 | l, none, _ => l
 | l, some d, x => put l d x
def ev1 (t : List V) : Operand → V
 | .tmp n => slot t n
 | .const v => (ofValue v).getD .poison
 | .global _ => .poison
 | .func f => .func (.func f) [] []
def pois : Nat → List V
 | 0 => []
 | n + 1 => .poison :: pois n
theorem slot_eq : ∀ (t : List V) (n : Nat), slot t n = t.getD n .poison
 | [], n => by simp [slot]
 | v :: l, 0 => rfl
 | v :: l, n + 1 => by simp only [slot, List.getD_cons_succ]; exact slot_eq l n
theorem put_eq : ∀ (t : List V) (n : Nat) (x : V), put t n x = t.set n x
 | [], n, x => by simp [put]
 | v :: l, 0, x => rfl
 | v :: l, n + 1, x => by simp only [put, List.set_cons_succ]; rw [put_eq l n x]
theorem putO_eq (t : List V) (d : Option Tmp) (x : V) : putO t d x = putT t d x := by
 cases d with
 | none => rfl
 | some d => exact put_eq t d x
theorem ev1_eq (t : List V) : ev1 t = evalT t := by
 funext x
 cases x <;> simp [ev1, evalT, slot_eq]
theorem pois_eq : ∀ n, pois n = List.replicate n V.poison
 | 0 => rfl
 | n + 1 => by rw [pois, pois_eq n]; rfl
abbrev Kont (R : Type) := Exit → List V → Heap → Option R
section
variable (E : Env) (ω : Rec) {R : Type}
def partsK (t : List V) : List (Nat × Operand) → List (Nat × V)
 | [] => []
 | (i, x) :: r => (i, ev1 t x) :: partsK t r
theorem partsK_eq (t : List V) : ∀ l, partsK t l = partsV (evalT t) l
 | [] => rfl
 | (i, x) :: r => by simp only [partsK, partsV, ev1_eq, partsK_eq t r]
def argsK (t : List V) : List Operand → List V
 | [] => []
 | x :: r => ev1 t x :: argsK t r
theorem argsK_eq (t : List V) : ∀ l, argsK t l = l.map (evalT t)
 | [] => rfl
 | x :: r => by simp only [argsK, List.map_cons, ev1_eq, argsK_eq t r]
def optK (t : List V) : Option Operand → Option V
 | none => none
 | some x => some (ev1 t x)
theorem optK_eq (t : List V) (x : Option Operand) : optK t x = x.map (evalT t) := by cases x <;> simp [optK, ev1_eq]
def applyK (f : V) (args : List V) (h : Heap) (k : V → Heap → Option R) : Option R :=
 match f with
 | .func (.func g) first captured => (callV E ω g (first ++ args ++ captured) h).bind fun x => k x.1 x.2
 | .yield d j => (roundV ω d j args h).bind fun x => k x.1 x.2
 | _ => none
def pickK (c a b : V) (h : Heap) (k : V → Heap → Option R) : Option R :=
 match c with
 | .bool t => k (if t then a else b) h
 | _ => none
def extractK (t : V) (i : Nat) (h : Heap) (k : V → Heap → Option R) : Option R :=
 match t with
 | .tuple vs => (vs[i]?).bind fun v => k v h
 | _ => none
def opC (t : List V) (h : Heap) (k : V → Heap → Option R) : Op → Option R
 | .move x | .assign x => k (ev1 t x) h
 | .pick c a b => pickK (ev1 t c) (ev1 t a) (ev1 t b) h k
 | .build ty parts => (buildV E.P ty (partsK t parts.toList)).bind fun v => k v h
 | .load ty a => (loadV E.P h ty (ev1 t a)).bind fun v => k v h
 | .store ty a x => (storeV E.P h ty (ev1 t a) (ev1 t x)).bind fun h' => k V.undef h'
 | .nilCheck x => (nilCheckV (ev1 t x)).bind fun v => k v h
 | .binOp op ty x y _ => (binO E op ty x y (ev1 t x) (ev1 t y)).bind fun v => k v h
 | .unOp op _ x => (unV op (ev1 t x)).bind fun v => k v h
 | .convert src dst x => (convertV E.P h src dst (ev1 t x)).bind fun x => k x.1 x.2
 | .makeFunc fn first captured => k (.func fn (argsK t first.toList) (argsK t captured.toList)) h
 | .makeSlice ty l c => (makeSliceV E.P h ty (ev1 t l) (ev1 t c)).bind fun x => k x.1 x.2
 | .slice ty x lo hi mx => (sliceV E.P ty (ev1 t x) (optK t lo) (optK t hi) (optK t mx)).bind fun v => k v h
 | .fieldAddr s x f => (fieldAddrV E.P s (ev1 t x) f).bind fun v => k v h
 | .field ty x f => (fieldV E.P ty (ev1 t x) f).bind fun v => k v h
 | .indexAddr ty x i => (indexAddrV E.P ty (ev1 t x) (ev1 t i)).bind fun v => k v h
 | .index ty x i => (indexV E.P ty (ev1 t x) (ev1 t i)).bind fun v => k v h
 | .typeAssert x _ asserted ok => (assertV E.P (ev1 t x) asserted ok).bind fun v => k v h
 | .extract x i => extractK (ev1 t x) i h k
 | .alloc elem => (zeroV E.P elem).bind fun z => if okCells z.cells then k (.pref 0 h.top.length 0 0) (newRow h z.cells z.cells.length).2 else none
 | .box _ x => if okCells (ev1 t x).cells then k (.pref 0 h.top.length 0 0) (newRow h (ev1 t x).cells (ev1 t x).cells.length).2 else none
 | .call { callee := .value f, args, .. } => applyK E ω (ev1 t f) (argsK t args.toList) h k
 | .call { callee := .builtin b, args, argTypes } => (builtinV E.P h b argTypes.toList (argsK t args.toList)).bind fun x => k x.1 x.2
 | .call { callee := .invoke recv name, args, .. } => (methodV E.P h (ev1 t recv) name).bind fun x => (callV E ω x.1 (x.2 :: argsK t args.toList) h).bind fun x => k x.1 x.2
 | .buildSlice ty len parts => (opV E (evalT t) h (.buildSlice ty len parts)).bind fun x => k x.1 x.2
 | .makeInterface ty x => (opV E (evalT t) h (.makeInterface ty x)).bind fun x => k x.1 x.2
 | .makeMap ty r => (makeMapV h r).bind fun x => k x.1 x.2
 | .lookup ty m ix ok => (lookupV E.P h ty (ev1 t m) (ev1 t ix) ok).bind fun v => k v h
 | .range ty x => (rangeV E.P h ty (ev1 t x)).bind fun x => k x.1 x.2
 | .next x s => (nextV h (ev1 t x) s).bind fun x => k x.1 x.2
 | .entry x => (entryV h (ev1 t x)).bind fun v => k v h
 | .mapUpdate ty m ix x => (mapPutV E.P h ty (ev1 t m) (ev1 t ix) (ev1 t x)).bind fun h' => k V.undef h'
 | _ => none
theorem bind_map_h {α β : Type} (o : Option α) (h : Heap) (k : α → Heap → Option β) : ((o.map fun v => (v, h)).bind fun x => k x.1 x.2) = o.bind fun v => k v h := by cases o <;> rfl
theorem opC_eq (t : List V) (h : Heap) (k : V → Heap → Option R) (o : Op) : opC E ω t h k o = (operV E ω t h o).bind fun x => k x.1 x.2 := by
 cases o <;> simp only [opC, operV, opV, ev1_eq, partsK_eq, argsK_eq, optK_eq, bind_map_h] <;> try rfl
 case pick c a b =>
  unfold pickK
  cases evalT t c <;> rfl
 case alloc elem =>
  cases zeroV E.P elem with
  | none => rfl
  | some z => simp only [Option.bind_some]; split <;> rfl
 case box ty x => split <;> rfl
 case store ty a x => cases storeV E.P h ty (evalT t a) (evalT t x) <;> rfl
 case mapUpdate ty m ix x => cases mapPutV E.P h ty (evalT t m) (evalT t ix) (evalT t x) <;> rfl
 case extract x i =>
  unfold extractK
  cases evalT t x <;> try rfl
  rename_i vs
  simp only
  cases vs[i]? <;> rfl
 case call c =>
  obtain ⟨callee, args, ats⟩ := c
  cases callee with
  | value f =>
   simp only [opC, operV, applyK, applyV, ev1_eq, argsK_eq]
   cases evalT t f <;> try rfl
   rename_i fn first captured
   cases fn <;> rfl
  | invoke r n =>
   simp only [opC, operV, ev1_eq, argsK_eq]
   cases methodV E.P h (evalT t r) n <;> rfl
  | builtin b => simp only [opC, operV, opV, argsK_eq]
def wantK (ops : Array Oper) (t : List V) (j : Nat) (want : Bool) : Option Bool :=
 match (ops[j]?).bind (·.dst) with
 | none => some false
 | some d => match slot t d with | .bool b => some (b == want) | .poison => none | _ => some false
def opsK (ops : Array Oper) (k : List V → Heap → Option R) : List Oper → List V → Heap → Option R
 | [], t, h => k t h
 | { dst := d, op := o, guard := none, .. } :: r, t, h => opC E ω t h (fun v h => opsK ops k r (putO t d v) h) o
 | { dst := d, op := o, guard := some (j, want), .. } :: r, t, h =>
  (wantK ops t j want).bind fun w => if w then opC E ω t h (fun v h => opsK ops k r (putO t d v) h) o else opsK ops k r (putO t d V.undef) h
theorem wantK_imp {ops : Array Oper} {t : List V} {j : Nat} {want b : Bool} {o : Oper} (hg : o.guard = some (j, want)) (h : wantK ops t j want = some b) : wantedV ops t o = some b := by
 unfold wantK at h
 unfold wantedV
 rw [hg]
 simp only
 cases hd : (ops[j]?).bind (·.dst) with
 | none => rw [hd] at h; simpa using h
 | some d =>
  rw [hd] at h
  simp only [Option.bind_some] at h ⊢
  rw [slot_eq, List.getD_eq_getElem?_getD] at h
  cases ht : t[d]? with
  | none => rw [ht] at h; simp at h
  | some v => rw [ht] at h; cases v <;> simpa using h
theorem opsK_imp {ops : Array Oper} {k : List V → Heap → Option R} {fn : FuncId} : ∀ (l : List Oper) (t : List V) (h : Heap) {r : R}, opsK E ω ops k l t h = some r → ∃ t' h', opsV E ω ops l ⟨fn, t, h⟩ = some ⟨fn, t', h'⟩ ∧ k t' h' = some r
 | [], t, h, r, hr => ⟨t, h, rfl, hr⟩
 | { dst := d, op := o, guard := none, type := ty, pos := ps, after := af } :: r, t, h, r', hr => by
  simp only [opsK, opC_eq, Option.bind_eq_some_iff] at hr
  obtain ⟨x, hx, hr⟩ := hr
  obtain ⟨t', h', h1, h2⟩ := opsK_imp r _ _ hr
  refine ⟨t', h', ?_, h2⟩
  simp only [opsV, wantedV, Option.bind_some, if_true, hx]
  rw [← putO_eq]; exact h1
 | { dst := d, op := o, guard := some (j, want), type := ty, pos := ps, after := af } :: r, t, h, r', hr => by
  simp only [opsK, opC_eq, Option.bind_eq_some_iff] at hr
  obtain ⟨b, hb, hr⟩ := hr
  have hw := wantK_imp (o := { dst := d, op := o, guard := some (j, want), type := ty, pos := ps, after := af }) rfl hb
  cases b with
  | true =>
   simp only [if_true, Option.bind_eq_some_iff] at hr
   obtain ⟨x, hx, hr⟩ := hr
   obtain ⟨t', h', h1, h2⟩ := opsK_imp r _ _ hr
   refine ⟨t', h', ?_, h2⟩
   simp only [opsV, hw, Option.bind_some, if_true, hx]
   rw [← putO_eq]; exact h1
  | false =>
   simp only [Bool.false_eq_true, if_false] at hr
   obtain ⟨t', h', h1, h2⟩ := opsK_imp r _ _ hr
   refine ⟨t', h', ?_, h2⟩
   simp only [opsV, hw, Option.bind_some, Bool.false_eq_true, if_false]
   rw [← putO_eq]; exact h1
def seqK (kb : List V → Heap → Option R) (k : Kont R) : Kont R := fun e t h => match e with | .normal => kb t h | e => k e t h
def blockK (id : Nat) (k : Kont R) : Kont R := fun e t h => match e with | .exit i => if i = id then k .normal t h else k (.exit i) t h | e => k e t h
def condK (c : V) (a b : Option R) : Option R :=
 match c with
 | .bool c => if c = true then a else b
 | _ => none
def behind (fn : FuncId) (k : Kont R) (x : Exit × St) : Option R := if x.2.fn = fn then k x.1 x.2.tmps x.2.heap else none
def loopK (fn : FuncId) (body : Code) (k : Kont R) (t : List V) (h : Heap) : Option R := (ω (.loop body) ⟨fn, t, h⟩).bind (behind fn k)
def rangeK (fn : FuncId) (f : Operand) (ps : Array Tmp) (assign body : Code) (k : Kont R) (t : List V) (h : Heap) : Option R := (ω (.rangeFunc f ps assign body) ⟨fn, t, h⟩).bind (behind fn k)
def scopeK (fn : FuncId) (c : Code) (k : Kont R) : Kont R := fun e t h =>
 match e with
 | .goto l => (match findLabel c l with | some rest => (ω rest ⟨fn, t, h⟩).bind (behind fn fun e t h => match e with | .goto _ => none | e => k e t h) | none => none)
 | e => k e t h
def drawK (E : Env) (ops : Array Oper) (chk : Bool) (k : List V → Heap → Option R) (t : List V) (h : Heap) : Option R := if chk = true then (if regOkD E ops t = true then k t h else none) else k t h
def evK (fn : FuncId) (dyn : List Nat) : Code → Kont R → List V → Heap → Option R
 | .skip, k, t, h => k .normal t h
 | .region id ops draw, k, t, h => opsK E ω ops (drawK E ops (draw && dyn.contains id) (k .normal)) ops.toList t h
 | .seq a b, k, t, h => evK fn dyn a (seqK (evK fn dyn b k) k) t h
 | .cond x a b, k, t, h => condK (ev1 t x) (evK fn dyn a k t h) (evK fn dyn b k t h)
 | .block id c, k, t, h => evK fn dyn c (blockK id k) t h
 | .loop body, k, t, h => loopK ω fn body k t h
 | .rangeFunc f ps a b, k, t, h => rangeK ω fn f ps a b k t h
 | .scope c, k, t, h => evK fn dyn c (scopeK ω fn c k) t h
 | .exit id, k, t, h => k (.exit id) t h
 | .label _, k, t, h => k .normal t h
 | .goto l, k, t, h => k (.goto l) t h
 | .ret, k, t, h => k .ret t h
 | .refuse _, _, _, _ => none
def okDraws (dyn : List Nat) : Code → Bool
 | .region id ops draw => !draw || dyn.contains id || regOkD E ops []
 | .seq a b => okDraws dyn a && okDraws dyn b
 | .cond _ a b => okDraws dyn a && okDraws dyn b
 | .block _ c => okDraws dyn c
 | .loop c => okDraws dyn c
 | .rangeFunc _ _ a b => okDraws dyn a && okDraws dyn b
 | .scope c => okDraws dyn c
 | _ => true
end
theorem kindT_nil (E : Env) (T : List V) (o : Op) : kindT E T o = kindT E [] o ∨ (kindT E [] o = .e ∧ (kindT E T o = .r ∨ kindT E T o = .a)) := by
 unfold kindT
 split
 ·rename_i f args ts
  cases f with
  | tmp t =>
   simp only [evalT, List.getD_nil]
   split
   ·split
    ·exact .inr (by simp)
    ·exact .inr (by simp)
    ·exact .inl rfl
   ·exact .inl rfl
  | _ => exact .inl rfl
 ·exact .inl rfl
theorem confK_nil (E : Env) (T : List V) (x y : Op) (h : confK (kindT E [] x) (kindT E [] y) = false) : confK (kindT E T x) (kindT E T y) = false := by
 have hn : ∀ k : Kind, (k = .n ∨ k = .r ∨ k = .a ∨ k = .e) := fun k => by cases k <;> simp
 rcases kindT_nil E T x with hx | ⟨hx, hx'⟩ <;> rcases kindT_nil E T y with hy | ⟨hy, hy'⟩
 ·rw [hx, hy]; exact h
 ·rw [hy] at h
  rw [hx]
  rcases hn (kindT E [] x) with h1 | h1 | h1 | h1 <;> rw [h1] at h ⊢ <;> rcases hy' with h2 | h2 <;> rw [h2] <;> revert h <;> decide
 ·rw [hx] at h
  rw [hy]
  rcases hn (kindT E [] y) with h1 | h1 | h1 | h1 <;> rw [h1] at h ⊢ <;> rcases hx' with h2 | h2 <;> rw [h2] <;> revert h <;> decide
 ·rw [hx, hy] at h; simp [confK] at h
theorem nil_pref : ∀ x : Operand, ∀ v, evalT [] x = v → (∀ d j o e, v ≠ .pref d j o e) := by
 intro x v hv d j o e he
 subst he
 cases x with
 | tmp t => simp [evalT] at hv
 | const c =>
  simp only [evalT] at hv
  cases hc : ofValue c with
  | none => rw [hc] at hv; simp at hv
  | some u =>
   rw [hc] at hv
   simp only [Option.getD_some] at hv
   subst hv
   have hs : ∀ c : Value, ofSimple c ≠ some (.pref d j o e) := by
    intro c h
    unfold ofSimple at h
    split at h <;> simp at h
   unfold ofValue at hc
   split at hc
   ·simp only [Option.map_eq_some_iff] at hc; obtain ⟨_, _, h⟩ := hc; cases h
   ·simp only [Option.map_eq_some_iff] at hc; obtain ⟨_, _, h⟩ := hc; cases h
   ·split at hc <;> simp at hc
   ·exact hs _ hc
 | global g => simp [evalT] at hv
 | func f => simp [evalT] at hv
theorem disj_nil (E : Env) (ops : Array Oper) (i j : Nat) (o q : Oper) : disj E [] ops i j o q = false := by
 unfold disj
 split
 ·rename_i t a t' b x h1 h2
  have : apartV (evalT [] a) (evalT [] b) = false := by
   unfold apartV
   split
   ·rename_i h1 h2; exact absurd rfl (nil_pref a _ h1 _ _ _ _)
   ·rename_i h1 h2; exact absurd rfl (nil_pref b _ h2 _ _ _ _)
   ·rfl
  rw [this]; simp
 ·rename_i t a f args ts h1 h2
  have : isPref (evalT [] a) = false := by
   unfold isPref
   split
   ·rename_i h1; exact absurd rfl (nil_pref a _ h1 _ _ _ _)
   ·rfl
  rw [this]
  split <;> simp
 ·rename_i t a args ts h1 h2
  split
  ·rename_i x r _
   have : apartS (evalT [] a) (evalT [] x) = false := by
    unfold apartS
    split
    ·rename_i h1 h2; exact absurd rfl (nil_pref a _ h1 _ _ _ _)
    ·rfl
   rw [this]; simp
  ·rfl
 ·rfl
theorem regOkD_nil (E : Env) (ops : Array Oper) (T : List V) (h : regOkD E ops [] = true) : regOkD E ops T = true := by
 simp only [regOkD, Bool.and_eq_true, List.all_eq_true, List.mem_range] at h ⊢
 refine ⟨h.1, fun i hi => ?_⟩
 have := h.2 i hi
 cases ho : ops[i]? with
 | none => rw [ho] at this; cases this
 | some o =>
  rw [ho] at this
  simp only [Bool.and_eq_true, List.all_eq_true, List.mem_range] at this ⊢
  refine ⟨this.1, fun j hj => ?_⟩
  have h2 := this.2 j hj
  cases hq : ops[j]? with
  | none => rw [hq] at h2; cases h2
  | some q =>
   rw [hq] at h2
   simp only [disj_nil, Bool.or_false, Bool.or_eq_true, Bool.and_eq_true, Bool.not_eq_true'] at h2 ⊢
   rcases h2 with ⟨h3, h4⟩ | h2
   ·exact .inl ⟨h3, .inl (.inl (confK_nil E T _ _ h4))⟩
   ·exact .inr h2
section
variable {E : Env} {R : Type} {fn : FuncId} {dyn : List Nat}
theorem evK_imp : ∀ (c : Code) (k : Kont R) (t : List V) (h : Heap) {r : R}, okDraws E dyn c = true → evK E (om E) fn dyn c k t h = some r → ∃ e t' h', om E c ⟨fn, t, h⟩ = some (e, ⟨fn, t', h'⟩) ∧ k e t' h' = some r := by
 intro c
 induction c with
 | skip => intro k t h r _ hr; exact ⟨.normal, t, h, by rw [om_step]; rfl, hr⟩
 | region id ops draw =>
  intro k t h r hd hr
  simp only [evK] at hr
  obtain ⟨t', h', h1, h2⟩ := opsK_imp E (om E) (fn := fn) _ _ _ hr
  have h3 : (draw && !regOkD E ops t') = false ∧ k .normal t' h' = some r := by
   unfold drawK at h2
   cases draw with
   | false => simpa using h2
   | true =>
    simp only [Bool.true_and] at h2 ⊢
    by_cases hc : dyn.contains id = true
    ·rw [if_pos hc] at h2
     split at h2
     ·rename_i hk; exact ⟨by rw [hk]; rfl, h2⟩
     ·cases h2
    ·rw [if_neg hc] at h2
     simp only [okDraws, Bool.not_true, Bool.false_or, Bool.or_eq_true] at hd
     rcases hd with hd | hd
     ·exact absurd hd hc
     ·exact ⟨by rw [regOkD_nil E ops t' hd]; rfl, h2⟩
  refine ⟨.normal, t', h', ?_, h3.2⟩
  rw [om_step]
  simp only [evStep, h1, Option.bind_some, h3.1]
  rfl
 | seq a b iha ihb =>
  intro k t h r hd hr
  simp only [okDraws, Bool.and_eq_true] at hd
  simp only [evK] at hr
  obtain ⟨e, t1, h1, ha, hk⟩ := iha _ _ _ hd.1 hr
  cases e with
  | normal =>
   obtain ⟨e2, t2, h2, hb, hk2⟩ := ihb _ _ _ hd.2 hk
   exact ⟨e2, t2, h2, by rw [om_step]; simp only [evStep, ha]; exact hb, hk2⟩
  | _ => exact ⟨_, t1, h1, by rw [om_step]; simp only [evStep, ha], hk⟩
 | cond x a b iha ihb =>
  intro k t h r hd hr
  simp only [okDraws, Bool.and_eq_true] at hd
  simp only [evK, condK, ev1_eq] at hr
  split at hr
  ·rename_i c hc
   cases c with
   | true =>
    obtain ⟨e, t1, h1, ha, hk⟩ := iha _ _ _ hd.1 (by simpa using hr)
    exact ⟨e, t1, h1, by rw [om_step]; simp only [evStep, hc]; simpa using ha, hk⟩
   | false =>
    obtain ⟨e, t1, h1, ha, hk⟩ := ihb _ _ _ hd.2 (by simpa using hr)
    exact ⟨e, t1, h1, by rw [om_step]; simp only [evStep, hc]; simpa using ha, hk⟩
  ·cases hr
 | block id c ih =>
  intro k t h r hd hr
  simp only [evK] at hr
  obtain ⟨e, t1, h1, ha, hk⟩ := ih _ _ _ (by simpa [okDraws] using hd) hr
  cases e with
  | exit i =>
   simp only [blockK] at hk
   by_cases hi : i = id
   ·rw [if_pos hi] at hk
    exact ⟨.normal, t1, h1, by rw [om_step]; simp only [evStep, ha, if_pos hi], hk⟩
   ·rw [if_neg hi] at hk
    exact ⟨.exit i, t1, h1, by rw [om_step]; simp only [evStep, ha, if_neg hi], hk⟩
  | _ => exact ⟨_, t1, h1, by rw [om_step]; simp only [evStep, ha], hk⟩
 | loop body _ =>
  intro k t h r hd hr
  simp only [evK, loopK, Option.bind_eq_some_iff, behind] at hr
  obtain ⟨⟨e, ⟨fn', t', h'⟩⟩, hx, hr⟩ := hr
  split at hr
  ·rename_i hf
   dsimp only at hf; subst hf
   exact ⟨e, t', h', hx, hr⟩
  ·cases hr
 | rangeFunc f ps a b _ _ =>
  intro k t h r hd hr
  simp only [evK, rangeK, Option.bind_eq_some_iff, behind] at hr
  obtain ⟨⟨e, ⟨fn', t', h'⟩⟩, hx, hr⟩ := hr
  split at hr
  ·rename_i hf
   dsimp only at hf; subst hf
   exact ⟨e, t', h', hx, hr⟩
  ·cases hr
 | exit id => intro k t h r _ hr; exact ⟨.exit id, t, h, by rw [om_step]; rfl, hr⟩
 | scope c ih =>
  intro k t h r hd hr
  simp only [evK] at hr
  obtain ⟨e, t1, h1, ha, hk⟩ := ih _ _ _ (by simpa [okDraws] using hd) hr
  cases e with
  | goto l =>
   simp only [scopeK] at hk
   cases hl : findLabel c l with
   | none => rw [hl] at hk; cases hk
   | some rest =>
    rw [hl] at hk
    simp only [Option.bind_eq_some_iff, behind] at hk
    obtain ⟨⟨e2, ⟨fn', t', h'⟩⟩, hx, hk⟩ := hk
    split at hk
    ·rename_i hf
     dsimp only at hf; subst hf
     dsimp only at hk
     refine ⟨e2, t', h', ?_, ?_⟩
     ·rw [om_step]
      simp only [evStep, ha, hl, hx]
      cases e2 <;> first | rfl | simp at hk
     ·cases e2 <;> first | exact hk | simp at hk
    ·cases hk
  | _ => exact ⟨_, t1, h1, by rw [om_step]; simp only [evStep, ha], hk⟩
 | label l => intro k t h r _ hr; exact ⟨.normal, t, h, by rw [om_step]; rfl, hr⟩
 | goto l => intro k t h r _ hr; exact ⟨.goto l, t, h, by rw [om_step]; rfl, hr⟩
 | ret => intro k t h r _ hr; exact ⟨.ret, t, h, by rw [om_step]; rfl, hr⟩
 | refuse w => intro k t h r _ hr; cases hr
def forkK2 (b : Option Blk) (j len ep : Nat) (q : Nat × Bool) (i : Nat) (t : List V) (h : Heap) : Option (List V × Heap) :=
 match b with
 | some (.row cells ep' esz true true) => if ep = ep' ∧ esz / 4294967296 ≤ cells.length then
   some (put (V.forkL j ep cells t) i (.sref 0 j 0 len ep q), (h.setTop (h.top.map (forkBlk j ep cells))).set 0 j (.row cells ep (esz % 4294967296 + 4294967296 * cells.length) true true)) else none
 | _ => none
def forkK (v : V) (i : Nat) (t : List V) (h : Heap) : Option (List V × Heap) :=
 match v with
 | .sref 0 j 0 len ep q => forkK2 (h.get 0 j) j len ep q i t h
 | _ => some (t, h)
def hintK (hi : Hint) (t : List V) (h : Heap) (k : List V → Heap → Option R) : Option R :=
 match hi with
 | .forget i => k (put t i .poison) h
 | .canon i => k (put t i (V.canon (slot t i))) h
 | .promote i esz =>
  match slot t i with
  | .nilslice => k (put t i (.sref 0 h.top.length 0 0 0 (esz, false))) (h.push (.row [] 0 esz true true))
  | _ => k t h
 | .promoteBox i off esz => (hintV (.promoteBox i off esz) ⟨0, t, h⟩).bind fun s => k s.tmps s.heap
 | .promoteAll i off esz => (promAll (slot t i) off esz h).bind fun h => k t h
 | .loose i => k (put t i (V.loose (slot t i))) h
 | .fork i => (forkK (slot t i) i t h).bind fun x => k x.1 x.2
def hintsK : List Hint → List V → Heap → (List V → Heap → Option R) → Option R
 | [], t, h, k => k t h
 | x :: r, t, h, k => hintK x t h fun t h => hintsK r t h k
def forgetK : List Hint → List V → List V
 | [], t => t
 | .forget i :: r, t => forgetK r (put t i .poison)
 | .canon _ :: r, t => forgetK r t
 | .promote _ _ :: r, t => forgetK r t
 | .promoteBox _ _ _ :: r, t => forgetK r t
 | .promoteAll _ _ _ :: r, t => forgetK r t
 | .loose _ :: r, t => forgetK r t
 | .fork _ :: r, t => forgetK r t
def trimK (n : Nat) (t : List V) (h : Heap) (k : List V → Heap → Option R) : Option R :=
 if h.top.length = n then k t h else
 if h.keeps = true then k t (h.deadAt n) else
 k (V.settleL n [List.replicate n .dead ++ h.top.drop n] t) (h.setTop ((h.top.take n).map (settleBlk n [List.replicate n .dead ++ h.top.drop n])))
def loopC (hs : List Hint) (n : Nat) (again : List V → Heap → Option R) (k : Kont R) : Kont R := fun e t h => match e with | .normal => trimK n (forgetK hs t) h again | e => k e t h
theorem hintK_imp {hi : Hint} {t : List V} {h : Heap} {k : List V → Heap → Option R} {r : R} (hr : hintK hi t h k = some r) : ∃ t' h', hintV hi ⟨fn, t, h⟩ = some ⟨fn, t', h'⟩ ∧ k t' h' = some r := by
 cases hi with
 | forget i => exact ⟨_, _, by simp only [hintV, put_eq], hr⟩
 | canon i => exact ⟨_, _, by simp only [hintV, put_eq, slot_eq], hr⟩
 | loose i => exact ⟨_, _, by simp only [hintV, put_eq, slot_eq], hr⟩
 | fork i =>
  simp only [hintK, slot_eq, Option.bind_eq_some_iff] at hr
  obtain ⟨⟨t1, h1⟩, hf, hr⟩ := hr
  refine ⟨t1, h1, ?_, hr⟩
  simp only [hintV, forkV]
  unfold forkK at hf
  split at hf
  ·rename_i j len ep q hs
   rw [hs]
   simp only
   unfold forkK2 at hf
   split at hf
   ·rename_i cells ep' esz hg
    rw [hg]
    simp only
    split at hf
    ·rename_i hc
     simp only [Option.some.injEq, Prod.mk.injEq] at hf
     obtain ⟨rfl, rfl⟩ := hf
     rw [if_pos hc, put_eq]
    ·cases hf
   ·cases hf
  ·rename_i hs
   simp only [Option.some.injEq, Prod.mk.injEq] at hf
   obtain ⟨rfl, rfl⟩ := hf
   split
   ·rename_i j len ep q hs'; exact absurd hs' (hs j len ep q)
   ·rfl
 | promote i esz =>
  simp only [hintK, slot_eq] at hr
  simp only [hintV]
  split at hr
  ·rename_i hs; rw [hs]; exact ⟨_, _, rfl, by rw [← put_eq]; exact hr⟩
  ·rename_i hs
   refine ⟨t, h, ?_, hr⟩
   split
   ·rename_i hs'; exact absurd hs' hs
   ·rfl
 | promoteBox i off esz =>
  simp only [hintK, Option.bind_eq_some_iff] at hr
  obtain ⟨s, hs, hr⟩ := hr
  refine ⟨s.tmps, s.heap, ?_, hr⟩
  have key : ∀ fn, hintV (.promoteBox i off esz) ⟨fn, t, h⟩ = (hintV (.promoteBox i off esz) ⟨0, t, h⟩).map fun s => ⟨fn, s.tmps, s.heap⟩ := by
   intro fn
   simp only [hintV]
   cases t.getD i .poison <;> try rfl
   rename_i d j off0 ep
   cases d <;> try rfl
   simp only
   cases h.get 0 j with
   | none => rfl
   | some b =>
    cases b with
    | row cells ep' esz' fl pl =>
     simp only
     cases cells[off0 + off]? with
     | none => rfl
     | some v =>
      cases v <;> try rfl
      simp only
      split <;> rfl
    | _ => rfl
  rw [key, hs]; rfl
 | promoteAll i off esz =>
  simp only [hintK, slot_eq, Option.bind_eq_some_iff] at hr
  obtain ⟨h', hs, hr⟩ := hr
  exact ⟨t, h', by simp only [hintV, hs, Option.map_some], hr⟩
theorem hintsK_imp : ∀ {hs : List Hint} {t : List V} {h : Heap} {k : List V → Heap → Option R} {r : R}, hintsK hs t h k = some r → ∃ t' h', hintsV hs ⟨fn, t, h⟩ = some ⟨fn, t', h'⟩ ∧ k t' h' = some r
 | [], t, h, k, r, hr => ⟨t, h, rfl, hr⟩
 | x :: l, t, h, k, r, hr => by
  simp only [hintsK] at hr
  obtain ⟨t1, h1, e1, hr⟩ := hintK_imp (fn := fn) hr
  obtain ⟨t2, h2, e2, hr⟩ := hintsK_imp hr
  exact ⟨t2, h2, by simp only [hintsV, e1, Option.bind_some]; exact e2, hr⟩
theorem forgetK_eq : ∀ (hs : List Hint) (t : List V) (h : Heap), forgets hs ⟨fn, t, h⟩ = ⟨fn, forgetK hs t, h⟩
 | [], t, h => rfl
 | .forget i :: r, t, h => by simp only [forgets, forgetK, put_eq]; exact forgetK_eq r _ h
 | .canon _ :: r, t, h => by simp only [forgets, forgetK]; exact forgetK_eq r _ h
 | .promote _ _ :: r, t, h => by simp only [forgets, forgetK]; exact forgetK_eq r _ h
 | .promoteBox _ _ _ :: r, t, h => by simp only [forgets, forgetK]; exact forgetK_eq r _ h
 | .promoteAll _ _ _ :: r, t, h => by simp only [forgets, forgetK]; exact forgetK_eq r _ h
 | .loose _ :: r, t, h => by simp only [forgets, forgetK]; exact forgetK_eq r _ h
 | .fork _ :: r, t, h => by simp only [forgets, forgetK]; exact forgetK_eq r _ h
theorem loopK_of {body : Code} {k : Kont R} {t : List V} {h : Heap} {r : R} {hs : List Hint} (hh : E.hint fn ((firstRegion body).getD 0) = hs) (hd : okDraws E dyn body = true)
  (hr : hintsK hs t h (fun t0 h0 => evK E (om E) fn dyn body (loopC hs h0.top.length (loopK (om E) fn body k) k) t0 h0) = some r) : loopK (om E) fn body k t h = some r := by
 obtain ⟨t0, h0, e0, hr⟩ := hintsK_imp (fn := fn) hr
 obtain ⟨e, t1, h1, e1, hr⟩ := evK_imp _ _ _ _ hd hr
 unfold loopK
 rw [om_step]
 simp only [evStep, hh, e0, Option.bind_some, e1]
 cases e with
 | normal =>
  simp only [loopC, trimK] at hr
  simp only [forgetK_eq]
  unfold St.trim
  split at hr
  ·rename_i hn
   rw [if_pos hn]
   exact hr
  ·rename_i hn
   rw [if_neg hn]
   split at hr
   ·rename_i hk
    rw [if_pos hk]
    exact hr
   ·rename_i hk
    rw [if_neg hk]
    exact hr
 | _ => simp only [Option.bind_some, behind, if_true]; exact hr
end
end Go.Sim
end
section
namespace Go.Sim
open Go
universe u
theorem same {α : Sort u} {a b : α} (h : a = b) : a = b := h
section
variable {R : Type}
inductive Tag {α : Type u} (a : α) : Type
 | mk
def bnd {α β : Type} (o : Option α) (f : α → Option β) (p : Tag f) : Option β := o.bind f
@[simp ↓] theorem bnd_some {α β : Type} (x : α) (f : α → Option β) (p : Tag f) : bnd (some x) f p = f x := same rfl
def iteK (c : Prop) [Decidable c] (a b : Option R) (p : Tag (a, b)) : Option R := if c then a else b
@[simp] theorem iteK_true [Decidable True] (a b : Option R) (p : Tag (a, b)) : iteK True a b p = a := by simp [iteK]
@[simp] theorem iteK_false [Decidable False] (a b : Option R) (p : Tag (a, b)) : iteK False a b p = b := by simp [iteK]
theorem iteK_pos {c : Prop} [Decidable c] (h : c) (a b : Option R) (p : Tag (a, b)) : iteK c a b p = a := by simp [iteK, h]
theorem iteK_neg {c : Prop} [Decidable c] (h : ¬ c) (a b : Option R) (p : Tag (a, b)) : iteK c a b p = b := by simp [iteK, h]
def chsK (c : V) (a b : Option R) (p : Tag (a, b)) : Option R := condK c a b
@[simp] theorem chsK_bool (c : Bool) (a b : Option R) (p : Tag (a, b)) : chsK (.bool c) a b p = iteK (c = true) a b .mk := same rfl
def lpK (ω : Rec) (fn : FuncId) (body : Code) (k : Kont R) (t : List V) (h : Heap) (p : Tag (body, k)) : Option R := loopK ω fn body k t h
def rgK (ω : Rec) (fn : FuncId) (f : Operand) (ps : Array Tmp) (assign body : Code) (k : Kont R) (t : List V) (h : Heap) (p : Tag (f, ps, assign, body, k)) : Option R := rangeK ω fn f ps assign body k t h
def extV (t : V) (i : Nat) : Option V := match t with | .tuple vs => vs[i]? | _ => none
def pickV (c a b : V) : Option V := match c with | .bool t => some (if t then a else b) | _ => none
def prmV (v : V) (i esz : Nat) (t : List V) (h : Heap) : Option (List V × Heap) :=
 match v with
 | .nilslice => some (put t i (.sref 0 h.top.length 0 0 0 (esz, false)), h.push (.row [] 0 esz true true))
 | _ => some (t, h)
@[simp] theorem prmV_nil (i esz t h) : prmV .nilslice i esz t h = some (put t i (.sref 0 h.top.length 0 0 0 (esz, false)), h.push (.row [] 0 esz true true)) := same rfl
@[simp] theorem prmV_sref (d j o l e q i esz t h) : prmV (.sref d j o l e q) i esz t h = some (t, h) := same rfl
def prmB (i off esz : Nat) (t : List V) (h : Heap) : Option (List V × Heap) := (hintV (.promoteBox i off esz) ⟨0, t, h⟩).map fun s => (s.tmps, s.heap)
@[simp ↓] theorem hintK_forget (i t h) (k : List V → Heap → Option R) : hintK (.forget i) t h k = k (put t i .poison) h := same rfl
@[simp ↓] theorem hintK_promote (i esz t h) (k : List V → Heap → Option R) : hintK (.promote i esz) t h k = bnd (prmV (slot t i) i esz t h) (fun x => k x.1 x.2) .mk := by
 simp only [hintK, prmV, bnd]
 cases slot t i <;> rfl
@[simp ↓] theorem hintK_promoteBox (i off esz t h) (k : List V → Heap → Option R) : hintK (.promoteBox i off esz) t h k = bnd (prmB i off esz t h) (fun x => k x.1 x.2) .mk := by
 simp only [hintK, prmB, bnd]
 cases hintV (.promoteBox i off esz) ⟨0, t, h⟩ <;> rfl
@[simp ↓] theorem hintK_promoteAll (i off esz t h) (k : List V → Heap → Option R) : hintK (.promoteAll i off esz) t h k = bnd (promAll (slot t i) off esz h) (fun x => k t x) .mk := by
 simp only [hintK, bnd]
@[simp ↓] theorem hintsK_nil (t h) (k : List V → Heap → Option R) : hintsK [] t h k = k t h := same rfl
@[simp ↓] theorem hintsK_cons (x r t h) (k : List V → Heap → Option R) : hintsK (x :: r) t h k = hintK x t h fun t h => hintsK r t h k := same rfl
@[simp ↓] theorem trimK_eq (n t h) (k : List V → Heap → Option R) : trimK n t h k = iteK (h.top.length = n) (k t h) (iteK (h.keeps = true) (k t (h.deadAt n)) (k (V.settleL n [List.replicate n .dead ++ h.top.drop n] t) (h.setTop ((h.top.take n).map (settleBlk n [List.replicate n .dead ++ h.top.drop n])))) .mk) .mk := same rfl
@[simp] theorem keeps_row (c e z f p l r) : Heap.keeps ((.row c e z f p :: l) :: r) = false := same rfl
@[simp ↓] theorem loopK_lp (ω : Rec) (fn body) (k : Kont R) (t h) : loopK ω fn body k t h = lpK ω fn body k t h .mk := same rfl
noncomputable def lpB (E : Env) (fn : FuncId) (dyn : List Nat) (hs : List Hint) (body : Code) (k : Kont R) (t : List V) (h : Heap) (p : Tag (body, k)) : Option R :=
 evK E (om E) fn dyn body (loopC hs h.top.length (loopK (om E) fn body k) k) t h
theorem lpB_eq (E : Env) (fn : FuncId) (dyn : List Nat) (hs : List Hint) (body : Code) (k : Kont R) (t : List V) (h : Heap) (p : Tag (body, k)) :
 lpB E fn dyn hs body k t h p = evK E (om E) fn dyn body (loopC hs h.top.length (loopK (om E) fn body k) k) t h := rfl
@[simp ↓] theorem seqK_normal (kb : List V → Heap → Option R) (k : Kont R) (t h) : seqK kb k .normal t h = kb t h := same rfl
@[simp ↓] theorem seqK_exit (kb : List V → Heap → Option R) (k : Kont R) (i t h) : seqK kb k (.exit i) t h = k (.exit i) t h := same rfl
@[simp ↓] theorem seqK_goto (kb : List V → Heap → Option R) (k : Kont R) (i t h) : seqK kb k (.goto i) t h = k (.goto i) t h := same rfl
@[simp ↓] theorem seqK_ret (kb : List V → Heap → Option R) (k : Kont R) (t h) : seqK kb k .ret t h = k .ret t h := same rfl
@[simp ↓] theorem blockK_normal (id : Nat) (k : Kont R) (t h) : blockK id k .normal t h = k .normal t h := same rfl
@[simp ↓] theorem blockK_exit (id : Nat) (k : Kont R) (i t h) : blockK id k (.exit i) t h = if i = id then k .normal t h else k (.exit i) t h := same rfl
@[simp ↓] theorem blockK_goto (id : Nat) (k : Kont R) (i t h) : blockK id k (.goto i) t h = k (.goto i) t h := same rfl
@[simp ↓] theorem blockK_ret (id : Nat) (k : Kont R) (t h) : blockK id k .ret t h = k .ret t h := same rfl
@[simp ↓] theorem loopC_normal (hs : List Hint) (n : Nat) (again : List V → Heap → Option R) (k : Kont R) (t h) : loopC hs n again k .normal t h = trimK n (forgetK hs t) h again := same rfl
@[simp ↓] theorem loopC_exit (hs : List Hint) (n : Nat) (again : List V → Heap → Option R) (k : Kont R) (i t h) : loopC hs n again k (.exit i) t h = k (.exit i) t h := same rfl
@[simp ↓] theorem loopC_goto (hs : List Hint) (n : Nat) (again : List V → Heap → Option R) (k : Kont R) (i t h) : loopC hs n again k (.goto i) t h = k (.goto i) t h := same rfl
@[simp ↓] theorem loopC_ret (hs : List Hint) (n : Nat) (again : List V → Heap → Option R) (k : Kont R) (t h) : loopC hs n again k .ret t h = k .ret t h := same rfl
@[simp ↓] theorem scopeK_normal (ω : Rec) (fn c) (k : Kont R) (t h) : scopeK ω fn c k .normal t h = k .normal t h := same rfl
@[simp ↓] theorem scopeK_ret (ω : Rec) (fn c) (k : Kont R) (t h) : scopeK ω fn c k .ret t h = k .ret t h := same rfl
@[simp ↓] theorem drawK_false (E : Env) (ops) (k : List V → Heap → Option R) (t h) : drawK E ops false k t h = k t h := same rfl
@[simp] theorem drawK_true (E : Env) (ops) (k : List V → Heap → Option R) (t h) : drawK E ops true k t h = iteK (regOkD E ops t = true) (k t h) none .mk := same rfl
section
variable (E : Env) (ω : Rec) (fn : FuncId) (dyn : List Nat) (k : Kont R) (t : List V) (h : Heap)
@[simp ↓] theorem evK_skip : evK E ω fn dyn .skip k t h = k .normal t h := same rfl
@[simp ↓] theorem evK_plain (id ops) : evK E ω fn dyn (.region id ops false) k t h = opsK E ω ops (k .normal) ops.toList t h := same rfl
@[simp ↓] theorem evK_draw (id ops) : evK E ω fn dyn (.region id ops true) k t h = opsK E ω ops (drawK E ops (dyn.contains id) (k .normal)) ops.toList t h := same rfl
@[simp ↓] theorem evK_seq (a b) : evK E ω fn dyn (.seq a b) k t h = evK E ω fn dyn a (seqK (evK E ω fn dyn b k) k) t h := same rfl
@[simp ↓] theorem evK_cond (x a b) : evK E ω fn dyn (.cond x a b) k t h = chsK (ev1 t x) (evK E ω fn dyn a k t h) (evK E ω fn dyn b k t h) .mk := same rfl
@[simp ↓] theorem evK_block (id c) : evK E ω fn dyn (.block id c) k t h = evK E ω fn dyn c (blockK id k) t h := same rfl
@[simp ↓] theorem evK_loop (c) : evK E ω fn dyn (.loop c) k t h = lpK ω fn c k t h .mk := same rfl
@[simp ↓] theorem evK_range (f ps a b) : evK E ω fn dyn (.rangeFunc f ps a b) k t h = rgK ω fn f ps a b k t h .mk := same rfl
@[simp ↓] theorem evK_scope (c) : evK E ω fn dyn (.scope c) k t h = evK E ω fn dyn c (scopeK ω fn c k) t h := same rfl
@[simp ↓] theorem evK_exit (id) : evK E ω fn dyn (.exit id) k t h = k (.exit id) t h := same rfl
@[simp ↓] theorem evK_label (l) : evK E ω fn dyn (.label l) k t h = k .normal t h := same rfl
@[simp ↓] theorem evK_goto (l) : evK E ω fn dyn (.goto l) k t h = k (.goto l) t h := same rfl
@[simp ↓] theorem evK_ret : evK E ω fn dyn .ret k t h = k .ret t h := same rfl
end
section
variable (E : Env) (ω : Rec) (ops : Array Oper) (k : List V → Heap → Option R) (t : List V) (h : Heap)
@[simp ↓] theorem opsK_nil : opsK E ω ops k [] t h = k t h := same rfl
@[simp ↓] theorem opsK_cons (d o ty ps af r) : opsK E ω ops k ({ dst := d, op := o, type := ty, pos := ps, after := af, guard := none } :: r) t h = opC E ω t h (fun v h => opsK E ω ops k r (putO t d v) h) o := same rfl
@[simp ↓] theorem opsK_guard (d o ty ps af j want r) : opsK E ω ops k ({ dst := d, op := o, type := ty, pos := ps, after := af, guard := some (j, want) } :: r) t h =
 bnd (wantK ops t j want) (fun w => iteK (w = true) (opC E ω t h (fun v h => opsK E ω ops k r (putO t d v) h) o) (opsK E ω ops k r (putO t d V.undef) h) .mk) .mk := same rfl
end
section
variable (E : Env) (ω : Rec) (t : List V) (h : Heap) (k : V → Heap → Option R)
@[simp ↓] theorem opC_move (x) : opC E ω t h k (.move x) = k (ev1 t x) h := same rfl
@[simp ↓] theorem opC_assign (x) : opC E ω t h k (.assign x) = k (ev1 t x) h := same rfl
@[simp ↓] theorem opC_pick (c a b) : opC E ω t h k (.pick c a b) = bnd (pickV (ev1 t c) (ev1 t a) (ev1 t b)) (fun v => k v h) .mk := by
 simp only [opC, pickK, pickV, bnd]
 cases ev1 t c <;> rfl
@[simp ↓] theorem opC_build (ty parts) : opC E ω t h k (.build ty parts) = bnd (buildV E.P ty (partsK t parts.toList)) (fun v => k v h) .mk := same rfl
@[simp ↓] theorem opC_load (ty a) : opC E ω t h k (.load ty a) = bnd (loadV E.P h ty (ev1 t a)) (fun v => k v h) .mk := same rfl
@[simp ↓] theorem opC_store (ty a x) : opC E ω t h k (.store ty a x) = bnd (storeV E.P h ty (ev1 t a) (ev1 t x)) (fun h' => k V.undef h') .mk := same rfl
@[simp ↓] theorem opC_nilCheck (x) : opC E ω t h k (.nilCheck x) = bnd (nilCheckV (ev1 t x)) (fun v => k v h) .mk := same rfl
@[simp ↓] theorem opC_binOp (op ty x y n) : opC E ω t h k (.binOp op ty x y n) = bnd (binO E op ty x y (ev1 t x) (ev1 t y)) (fun v => k v h) .mk := same rfl
@[simp ↓] theorem opC_unOp (op ty x) : opC E ω t h k (.unOp op ty x) = bnd (unV op (ev1 t x)) (fun v => k v h) .mk := same rfl
@[simp ↓] theorem opC_convert (src dst x) : opC E ω t h k (.convert src dst x) = bnd (convertV E.P h src dst (ev1 t x)) (fun x => k x.1 x.2) .mk := same rfl
@[simp ↓] theorem opC_makeFunc (fn first captured) : opC E ω t h k (.makeFunc fn first captured) = k (.func fn (argsK t first.toList) (argsK t captured.toList)) h := same rfl
@[simp ↓] theorem opC_makeSlice (ty l c) : opC E ω t h k (.makeSlice ty l c) = bnd (makeSliceV E.P h ty (ev1 t l) (ev1 t c)) (fun x => k x.1 x.2) .mk := same rfl
@[simp ↓] theorem opC_slice (ty x lo hi mx) : opC E ω t h k (.slice ty x lo hi mx) = bnd (sliceV E.P ty (ev1 t x) (optK t lo) (optK t hi) (optK t mx)) (fun v => k v h) .mk := same rfl
@[simp ↓] theorem opC_fieldAddr (s x f) : opC E ω t h k (.fieldAddr s x f) = bnd (fieldAddrV E.P s (ev1 t x) f) (fun v => k v h) .mk := same rfl
@[simp ↓] theorem opC_field (ty x f) : opC E ω t h k (.field ty x f) = bnd (fieldV E.P ty (ev1 t x) f) (fun v => k v h) .mk := same rfl
@[simp ↓] theorem opC_indexAddr (ty x i) : opC E ω t h k (.indexAddr ty x i) = bnd (indexAddrV E.P ty (ev1 t x) (ev1 t i)) (fun v => k v h) .mk := same rfl
@[simp ↓] theorem opC_index (ty x i) : opC E ω t h k (.index ty x i) = bnd (indexV E.P ty (ev1 t x) (ev1 t i)) (fun v => k v h) .mk := same rfl
@[simp ↓] theorem opC_typeAssert (x ty asserted ok) : opC E ω t h k (.typeAssert x ty asserted ok) = bnd (assertV E.P (ev1 t x) asserted ok) (fun v => k v h) .mk := same rfl
@[simp ↓] theorem opC_extract (x i) : opC E ω t h k (.extract x i) = bnd (extV (ev1 t x) i) (fun v => k v h) .mk := by
 simp only [opC, extractK, extV, bnd]
 cases ev1 t x <;> rfl
@[simp ↓] theorem opC_alloc (elem) : opC E ω t h k (.alloc elem) = bnd (zeroV E.P elem) (fun z => iteK (okCells z.cells = true) (k (.pref 0 h.top.length 0 0) (newRow h z.cells z.cells.length).2) none .mk) .mk := same rfl
@[simp ↓] theorem opC_box (ty x) : opC E ω t h k (.box ty x) = iteK (okCells (ev1 t x).cells = true) (k (.pref 0 h.top.length 0 0) (newRow h (ev1 t x).cells (ev1 t x).cells.length).2) none .mk := same rfl
@[simp ↓] theorem opC_call (f args ts) : opC E ω t h k (.call { callee := .value f, args, argTypes := ts }) = bnd (applyV E ω (ev1 t f) (argsK t args.toList) h) (fun x => k x.1 x.2) .mk := by
 simp only [opC, applyK, applyV, bnd]
 cases ev1 t f <;> try rfl
 rename_i fn first captured
 cases fn <;> rfl
@[simp ↓] theorem opC_builtin (b args ts) : opC E ω t h k (.call { callee := .builtin b, args, argTypes := ts }) = bnd (builtinV E.P h b ts.toList (argsK t args.toList)) (fun x => k x.1 x.2) .mk := same rfl
@[simp ↓] theorem opC_invoke (recv name args ts) : opC E ω t h k (.call { callee := .invoke recv name, args, argTypes := ts }) =
 bnd (methodV E.P h (ev1 t recv) name) (fun x => bnd (callV E ω x.1 (x.2 :: argsK t args.toList) h) (fun x => k x.1 x.2) .mk) .mk := same rfl
def rowV (P : Program) (ty : TypeId) (len : Nat) (parts : List (Nat × V)) : Option (List V × Nat) :=
 match P.underlying ty with
 | some (.slice elem) => (sizeV P elem).bind fun n => (zeroV P elem).bind fun z =>
   if len * n ≤ 2 ^ 20 ∧ z.cells.length = n ∧ 0 < n then
    (fillV (fun i => some (i * n, n)) (rep z.cells len) parts).bind fun cells => if okCells cells then some (cells, n) else none
   else none
 | _ => none
@[simp ↓] theorem opC_buildSlice (ty len parts) : opC E ω t h k (.buildSlice ty len parts) =
  bnd (rowV E.P ty len (partsK t parts.toList)) (fun x => k (.sref 0 h.top.length 0 len 0 (x.2, true)) (newRow h x.1 x.2).2) .mk := by
 unfold bnd rowV
 simp only [opC, opV, partsK_eq]
 generalize E.P.underlying ty = u
 cases u with
 | none => rfl
 | some d =>
  cases d <;> try rfl
  rename_i elem
  simp only
  cases sizeV E.P elem with
  | none => rfl
  | some n =>
   simp only [Option.bind_some]
   cases zeroV E.P elem with
   | none => rfl
   | some z =>
    simp only [Option.bind_some]
    split
    ·cases fillV (fun i => some (i * n, n)) (rep z.cells len) (partsV (evalT t) parts.toList) with
     | none => rfl
     | some cells => simp only [Option.bind_some]; split <;> rfl
    ·rfl
def ifaceV (P : Program) (ty : TypeId) (x : V) : Option V := match P.underlying ty with | some (.interface _) => none | some _ => some (.iface ty x) | none => none
@[simp ↓] theorem opC_makeInterface (ty x) : opC E ω t h k (.makeInterface ty x) = bnd (ifaceV E.P ty (ev1 t x)) (fun v => k v h) .mk := by
 unfold bnd ifaceV
 simp only [opC, opV, ev1_eq]
 generalize E.P.underlying ty = u
 cases u with
 | none => rfl
 | some d => cases d <;> rfl
@[simp] theorem applyV_func (g first captured args) : applyV E ω (.func (.func g) first captured) args h = callV E ω g (first ++ args ++ captured) h := same rfl
@[simp] theorem applyV_yield (d j args) : applyV E ω (.yield d j) args h = roundV ω d j args h := same rfl
end
@[simp] theorem extV_tuple (vs : List V) (i : Nat) : extV (.tuple vs) i = vs[i]? := same rfl
@[simp] theorem pickV_bool (c : Bool) (a b : V) : pickV (.bool c) a b = some (if c then a else b) := same rfl
attribute [simp] slot put putO ev1 partsK argsK optK pois wantK forgetK
def resC (P : Program) (t : List V) (h : Heap) : List ResultVar → (List V → Option R) → Option R
 | [], k => k []
 | .tmp i :: r, k => resC P t h r fun l => k (slot t i :: l)
 | .cell a ty :: r, k => (nilCheckV (slot t a)).bind fun p => (loadV P h ty p).bind fun v => resC P t h r fun l => k (v :: l)
def endK (P : Program) (rs : List ResultVar) (fin : V → Heap → Option R) : Kont R := fun e t h =>
 match e with
 | .normal => resC P t h rs fun l => fin (joinV l) h
 | .ret => resC P t h rs fun l => fin (joinV l) h
 | _ => none
@[simp ↓] theorem endK_normal (P : Program) (rs : List ResultVar) (fin : V → Heap → Option R) (t h) : endK P rs fin .normal t h = resC P t h rs fun l => fin (joinV l) h := same rfl
@[simp ↓] theorem endK_ret (P : Program) (rs : List ResultVar) (fin : V → Heap → Option R) (t h) : endK P rs fin .ret t h = resC P t h rs fun l => fin (joinV l) h := same rfl
@[simp ↓] theorem resC_nil (P : Program) (t h) (k : List V → Option R) : resC P t h [] k = k [] := same rfl
@[simp ↓] theorem resC_tmp (P : Program) (t h i r) (k : List V → Option R) : resC P t h (.tmp i :: r) k = resC P t h r fun l => k (slot t i :: l) := same rfl
@[simp ↓] theorem resC_cell (P : Program) (t h a ty r) (k : List V → Option R) : resC P t h (.cell a ty :: r) k = bnd (nilCheckV (slot t a)) (fun p => bnd (loadV P h ty p) (fun v => resC P t h r fun l => k (v :: l)) .mk) .mk := same rfl
attribute [simp] joinV
def pureFin (lent : Bool) (v : V) (h : Heap) : Option V := if lent && !V.own h v then (V.freeze [h.top.map stripBlk] (V.strip v)).map V.canon else (V.freeze [h.top] v).map V.canon
def bodyFin (v : V) (h : Heap) : Option (V × Heap) := some (v, h)
attribute [simp] pureFin bodyFin
theorem resC_imp {P : Program} {t : List V} {h : Heap} {fn : FuncId} : ∀ (rs : List ResultVar) (k : List V → Option R) {r : R}, resC P t h rs k = some r → ∃ l, resultsV P ⟨fn, t, h⟩ rs = some l ∧ k l = some r
 | [], k, r, hr => ⟨[], rfl, hr⟩
 | .tmp i :: rs, k, r, hr => by
  obtain ⟨l, h1, h2⟩ := resC_imp (fn := fn) rs _ hr
  exact ⟨_, by simp only [resultsV, h1, Option.bind_some]; rw [← slot_eq], h2⟩
 | .cell a ty :: rs, k, r, hr => by
  simp only [resC, Option.bind_eq_some_iff] at hr
  obtain ⟨p, hp, v, hv, hr⟩ := hr
  obtain ⟨l, h1, h2⟩ := resC_imp (fn := fn) rs _ hr
  exact ⟨_, by simp only [resultsV, h1, Option.bind_some]; rw [← slot_eq, hp]; simp only [Option.bind_some, hv], h2⟩
theorem body_of {E : Env} {f : FuncId} {fn : Func} {c : Code} {dyn : List Nat} {args : List V} {h : Heap} {fin : V → Heap → Option R} {r : R} (hf : E.fns f = true) (h1 : E.P.funcs[f]? = some fn) (h2 : fn.body = some c) (hd : okDraws E dyn c = true)
  (hr : evK E (om E) f dyn c (endK E.P fn.results.toList fin) (args ++ pois (fn.ntmps - args.length)) h = some r) : ∃ v h', bodyV E (om E) f args h = some (v, h') ∧ fin v h' = some r := by
 obtain ⟨e, t', h', he, hk⟩ := evK_imp _ _ _ _ hd hr
 unfold bodyV
 rw [if_pos hf, h1]
 simp only [h2]
 rw [← pois_eq, he]
 cases e with
 | normal =>
  obtain ⟨l, g1, g2⟩ := resC_imp (fn := f) _ _ hk
  exact ⟨joinV l, h', by simp only [g1]; rfl, g2⟩
 | ret =>
  obtain ⟨l, g1, g2⟩ := resC_imp (fn := f) _ _ hk
  exact ⟨joinV l, h', by simp only [g1]; rfl, g2⟩
 | _ => cases hk
theorem bodyV_of {E : Env} {f : FuncId} {fn : Func} {c : Code} {dyn : List Nat} {args : List V} {h : Heap} {r : V × Heap} (hf : E.fns f = true) (h1 : E.P.funcs[f]? = some fn) (h2 : fn.body = some c) (hd : okDraws E dyn c = true)
  (hr : evK E (om E) f dyn c (endK E.P fn.results.toList bodyFin) (args ++ pois (fn.ntmps - args.length)) h = some r) : bodyV E (om E) f args h = some r := by
 obtain ⟨v, h', h3, h4⟩ := body_of hf h1 h2 hd hr
 simp only [bodyFin, Option.some.injEq] at h4; subst h4
 exact h3
theorem pureV_of {E : Env} {f : FuncId} {fn : Func} {c : Code} {dyn : List Nat} {lent : Bool} {args : List V} {r : V} (hf : E.fns f = true) (h1 : E.P.funcs[f]? = some fn) (h2 : fn.body = some c) (hd : okDraws E dyn c = true)
  (hr : evK E (om E) f dyn c (endK E.P fn.results.toList (pureFin lent)) (args ++ pois (fn.ntmps - args.length)) [[]] = some r) : pureV E (om E) f lent args = some r := by
 obtain ⟨v, h', h3, h4⟩ := body_of hf h1 h2 hd hr
 unfold pureV
 rw [h3]
 exact h4
theorem callV_known {E : Env} {rec : Rec} {f : FuncId} {F : List V → Heap → Option (V × Heap)} (hk : E.known f = some F) (args : List V) (h : Heap) : callV E rec f args h = F args h := by
 unfold callV; rw [hk]
theorem callV_pure {E : Env} {rec : Rec} {f : FuncId} (hk : E.known f = none) (hm : E.mode f = .pure) (args : List V) (h : Heap) : callV E rec f args h = (viewArgs h args).bind fun args' => (pureV E rec f (!V.flatL args) args').map fun r => (r, h) := by
 unfold callV; rw [hk, hm]
theorem callV_own {E : Env} {rec : Rec} {f : FuncId} (hk : E.known f = none) (hm : E.mode f = .own) (args : List V) (h : Heap) : callV E rec f args h = (viewArgs h args).bind fun args' => (bodyV E rec f args' [[]]).bind fun x =>
   if !V.flatL args && !V.own x.2 x.1 then some (V.out h.top.length (V.strip x.1), h.setTop (h.top ++ (x.2.top.map stripBlk).map (outBlk h.top.length))) else some (V.out h.top.length x.1, h.setTop (h.top ++ x.2.top.map (outBlk h.top.length))) := by
 unfold callV; rw [hk, hm]
theorem callV_heap {E : Env} {rec : Rec} {f : FuncId} (hk : E.known f = none) (hm : E.mode f = .heap) (args : List V) (h : Heap) : callV E rec f args h = (bodyV E rec f (V.upL 1 args) ([] :: h)).bind fun x => (V.freeze [x.2.top] x.1).bind fun r' => some (r', x.2.tail) := by
 unfold callV; rw [hk, hm]
theorem callV_live {E : Env} {rec : Rec} {f : FuncId} (hk : E.known f = none) (hm : E.mode f = .live) (args : List V) (h : Heap) : callV E rec f args h = (bodyV E rec f (V.upL 1 args) ([] :: h)).bind fun x =>
   some (V.out (Heap.top x.2.tail).length x.1, Heap.setTop x.2.tail (Heap.top x.2.tail ++ x.2.top.map (outBlk (Heap.top x.2.tail).length))) := by
 unfold callV; rw [hk, hm]
theorem callV_inl {E : Env} {rec : Rec} {f : FuncId} (hk : E.known f = none) (hm : E.mode f = .inl) (args : List V) (h : Heap) : callV E rec f args h = bodyV E rec f args h := by
 unfold callV; rw [hk, hm]
theorem loop_next {E : Env} {fn : FuncId} {dyn : List Nat} {hs : List Hint} {body : Code} {k : Kont R} {t : List V} {h : Heap} {r : R} {p : Tag (body, k)} (hh : E.hint fn ((firstRegion body).getD 0) = hs) (hd : okDraws E dyn body = true)
  (hr : hintsK hs t h (fun t h => lpB E fn dyn hs body k t h .mk) = some r) : lpK (om E) fn body k t h p = some r := loopK_of hh hd hr
theorem loop_use {E : Env} {fn : FuncId} {dyn : List Nat} {hs : List Hint} {body : Code} {k : Kont R} {t : List V} {h : Heap} {r : R} {p : Tag (body, k)} {α : Type} (S : α → List V) (H : α → Heap) (Inv : α → Prop) (μ : α → Nat)
  (hh : E.hint fn ((firstRegion body).getD 0) = hs) (hd : okDraws E dyn body = true)
  (step : ∀ a, Inv a → (∀ b t h, Inv b → μ b < μ a → hintsK hs t h (fun t h => lpB E fn dyn hs body k t h .mk) = lpB E fn dyn hs body k (S b) (H b) .mk → lpK (om E) fn body k t h .mk = some r) →
   lpB E fn dyn hs body k (S a) (H a) .mk = some r)
  (a : α) (ha : Inv a) (hi : hintsK hs t h (fun t h => lpB E fn dyn hs body k t h .mk) = lpB E fn dyn hs body k (S a) (H a) .mk) : lpK (om E) fn body k t h p = some r := by
 have key : ∀ m a, μ a = m → Inv a → lpB E fn dyn hs body k (S a) (H a) .mk = some r := by
  intro m
  induction m using Nat.strongRecOn with
  | _ m ih =>
   intro a hm ha
   refine step a ha fun b t h hb hlt hh' => ?_
   exact loop_next hh hd (by rw [hh']; exact ih (μ b) (by omega) b rfl hb)
 exact loop_next hh hd (by rw [hi]; exact key _ a rfl ha)
end
end Go.Sim
end
