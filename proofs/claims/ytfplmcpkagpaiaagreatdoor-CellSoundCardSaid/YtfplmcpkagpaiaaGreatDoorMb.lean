/-
 The machine of values: writing the heap.
 The machine of values: append, conversions.
 The machine of values: append as a whole; conversions.
 The machine of values: conversions; the operations as a whole.
 The machine of values: maps whose keys are numbers.
 The machine of values: every operation that calls nothing.
 The machine of values: contents, borders of functions: what a value stands for before and behind.
 The machine of values: out of a function, out of a round of a loop.
 The machine of values: a level cut; hints.
 The machine of values: what soundness says; a function's body; calls.
-/
import Derived.Test.YtfplmcpkagpaiaaGreatDoorMa
import Derived.MapKept
import Derived.LoopNIn
import Derived.OrdersIn
set_option linter.unusedSimpArgs false
set_option linter.unusedVariables false
section
namespace Go.Sim
open Go
section
variable {E : Env} {P : Program} {w : World} {ok : Nat → Nat → Prop} {B : Bd} {p : Array Oper → Bool} {h : Heap}
theorem Heap.get_set {d j : Nat} {x : Blk} (hg : h.get d j = some x) (b : Blk) (d' j' : Nat) : (h.set d j b).get d' j' = if d' = d ∧ j' = j then some b else h.get d' j' := by
 unfold Heap.get Heap.set at *
 cases hl : h[d]? with
 | none => simp [hl] at hg
 | some l =>
  simp only [hl, Option.bind_some] at hg
  have hdl : d < h.length := by
   rcases Nat.lt_or_ge d h.length with h1 | h1
   ·exact h1
   ·simp [List.getElem?_eq_none h1] at hl
  have hjl : j < l.length := by
   rcases Nat.lt_or_ge j l.length with h1 | h1
   ·exact h1
   ·simp [List.getElem?_eq_none h1] at hg
  simp only [Option.getD_some]
  by_cases hd : d' = d
  ·subst hd
   rw [List.getElem?_set_self hdl]
   simp only [Option.bind_some, true_and]
   by_cases hj : j' = j
   ·subst hj; simp [hjl]
   ·rw [List.getElem?_set_ne (by omega), if_neg hj]; simp [hl]
  ·rw [List.getElem?_set_ne (by omega), if_neg (by omega)]
theorem Heap.length_set (d j : Nat) (b : Blk) : (h.set d j b).length = h.length := by simp [Heap.set]
theorem setRow_same {b : Nat} {cur cs : Array Value} {el : TypeId} {fr : Nat × Nat} (hg : w.heap[b]? = some (.cells cur el fr)) (hs : cs.size = cur.size) (k : Nat) : csize (w.setRow b cs) k = csize w k := by
 unfold csize
 by_cases hk : k = b
 ·subst hk; rw [setRow_heap w k cur cs el fr hg, hg]; exact hs
 ·rw [setRow_other w b k cs hk]
theorem set_row (hh : HR ok w B p h) {d j b ep ep2 esz : Nat} (hE : B d j = .row (some b) ep esz) (hep : ep ≤ ep2) {x : Blk} (hx0 : h.get d j = some x)
  {cur cs : Array Value} {el : TypeId} {fr : Nat × Nat} (hg : w.heap[b]? = some (.cells cur el fr)) (hs : cs.size = cur.size) (hfz : ∀ i, i < esz / 4294967296 → cs[i]? = cur[i]?) (hfr : fr.1 = fr.2 ∨ cur.size ≤ fr.1)
  {c1 c2 : List Value} (hc : cs.toList = c1 ++ c2) {cells2 : List V} (hr : ORelL ok w (B.from_ d) cells2 c1) {flat2 plain2 : Bool} (hf : flat2 = true → V.flatL cells2 = true) (hp : plain2 = true → V.plainL cells2 = true) :
  Ext ok B w ok (B.put d j (.row (some b) ep2 esz)) (w.setRow b cs) ∧ HR ok (w.setRow b cs) (B.put d j (.row (some b) ep2 esz)) p (h.set d j (.row cells2 ep2 esz flat2 plain2)) := by
 have hbk : (B d j).blk = some b := by rw [hE]; rfl
 have hx : Ext ok B w ok (B.put d j (.row (some b) ep2 esz)) (w.setRow b cs) := by
  refine ⟨by simp, rfl, rfl, rfl, fun k hk hu => setRow_other w b k cs (fun e => hu d j (by rw [hbk, e])), OkLe.row hh (b1 := b) (fun n hn i hi => ?_) (fun k hk hne => setRow_other w b k cs hne), fun _ _ _ h => .inl h, fun d' j' => ?_, fun d' j' k hk _ => ?_⟩
  ·have := hh.frozen hbk hn
   rw [hE] at this
   simp only [World.cell?, setRow_heap w b cur cs el fr hg, hg]
   exact hfz i (Nat.lt_of_lt_of_le hi this)
  ·by_cases hq : d' = d ∧ j' = j
   ·obtain ⟨rfl, rfl⟩ := hq
    rw [Bd.put_same, hE]
    refine .inr ⟨_, _, _, rfl, ?_⟩
    rcases Nat.lt_or_ge ep ep2 with h1 | h1
    ·exact .inl h1
    ·exact .inr ⟨by omega, rfl, fun b0 _ => by rw [setRow_same hg hs]; exact Nat.le_refl _⟩
   ·rw [Bd.put_other B _ hq]
    exact EntLe.refl _ fun k _ => by rw [setRow_same hg hs]; exact Nat.le_refl _
  ·by_cases hq : d' = d ∧ j' = j
   ·obtain ⟨rfl, rfl⟩ := hq; rw [Bd.put_same] at hk; rw [hbk]; exact hk
   ·rw [Bd.put_other B _ hq] at hk; exact hk
 refine ⟨hx, HR.put hx hh (by rw [Heap.length_set]; exact hh.pos) ?_ ?_ ?_ ?_⟩
 ·intro d' j' k hne hk
  refine setRow_other w b k cs fun e => hne ?_
  subst e
  exact hh.inj d' j' d j k hk hbk
 ·intro d' j' hne _
  rw [Heap.get_set hx0, if_neg hne]
 ·intro k hk
  simp only [Ent.blk, Option.some.injEq] at hk; subst hk
  refine ⟨by rw [setRow_size]; exact hh.lt d j b hbk, fun n hok => by have := hh.frozen hbk hok; rw [hE] at this; exact this, fun d' j' hne hk => hne (hh.inj d' j' d j b hk hbk)⟩
 ·rw [Heap.get_set hx0, if_pos ⟨rfl, rfl⟩]
  refine ⟨cells2, flat2, plain2, rfl, hf, hp, cs, el, fr.1, fr.2, setRow_heap w b cur cs el fr hg, ?_, c1, c2, hc, hx.orelL_from hh d hr⟩
  rwa [hs]
theorem one_oneCell {c : Value} (h : one c = true) : c.oneCell' = true := by cases c <;> first | rfl | simp [one] at h
theorem ORelL.ones {l : List V} {l' : List Value} (h : ORelL ok w B l l') : ∀ v ∈ l', v.oneCell' = true := by
 intro v hv
 obtain ⟨i, hi, rfl⟩ := List.getElem_of_mem hv
 have hlen := h.length
 obtain ⟨c, hc, h1, _⟩ := h.get (i := i) (v := l[i]'(by omega)) (List.getElem?_eq_getElem (by omega))
 rw [List.getElem?_eq_getElem hi] at hc
 simp only [Option.some.injEq] at hc
 rw [hc]; exact one_oneCell h1
theorem run_storeCells_fr (g o : Nat) (t : TypeId) (fr : Nat × Nat) : ∀ (vs : List Value) (i : Nat) (cur : Array Value) (w : World), w.heap[g]? = some (.cells cur t fr) → (fr.1 = fr.2 ∨ cur.size ≤ fr.1) → o + i + vs.length ≤ cur.size → (∀ v ∈ vs, v.oneCell' = true) →
  (storeCells ⟨g, o, none⟩ vs i).run P w = .ok () (w.setRow g (cur.toList.take (o + i) ++ vs ++ cur.toList.drop (o + i + vs.length)).toArray)
 | [], i, cur, w, hg, _, _, _ => by
  simp only [storeCells, List.append_nil, List.length_nil, Nat.add_zero, List.take_append_drop, Array.toArray_toList]
  rw [setRow_self w g cur t fr hg]
  rfl
 | v :: rest, i, cur, w, hg, hfr, hl, h1 => by
  have hi : o + i < cur.size := by simp at hl; omega
  have hcell : w.cell? ⟨g, o + i, none⟩ = some cur[o + i] := by simp [World.cell?, hg, hi]
  have hfro : w.frozen? ⟨g, o + i, none⟩ = false := by
   simp only [World.frozen?, hg]
   rcases hfr with h | h
   ·simp; omega
   ·simp; omega
  have hst : (store ((⟨g, o, none⟩ : Addr).add i) v).run P w = .ok () (w.setRow g (cur.setIfInBounds (o + i) v)) := by
   rw [Addr.add_plain, run_store P w _ v _ (h1 v (by simp)), hcell]
   simp [hfro, setCell_eq_setRow w g (o + i) cur t fr v hg]
  have ih := run_storeCells_fr g o t fr rest (i + 1) (cur.setIfInBounds (o + i) v) (w.setRow g (cur.setIfInBounds (o + i) v)) (setRow_heap w g cur _ t _ hg) (by simpa using hfr) (by simp at hl ⊢; omega) (fun x hx => h1 x (by simp [hx]))
  simp only [storeCells, Sem.run_bind, hst, Result.andThen_ok, ih, setRow_setRow]
  congr 3
  have e := list_seg_step cur.toList (o + i) v rest (by simp at hl ⊢; omega)
  simpa [Array.toList_setIfInBounds, Nat.add_assoc] using e
theorem storeN_eq : ∀ (vs cells : List V) (off : Nat), off + vs.length ≤ cells.length → storeN cells off vs = cells.take off ++ vs ++ cells.drop (off + vs.length)
 | [], cells, off, h => by simp [storeN]
 | v :: r, cells, off, h => by
  simp at h
  rw [storeN, storeN_eq r (cells.set off v) (off + 1) (by simp; omega)]
  apply List.ext_getElem?
  intro i
  simp only [List.getElem?_append, List.length_take, List.length_set, List.getElem?_take, List.getElem?_drop, List.length_append, List.length_cons]
  rcases Nat.lt_trichotomy i off with h1 | h1 | h1
  ·rw [if_pos (by omega), if_pos (by omega), if_pos (by omega), if_pos (by omega), if_pos (by omega), if_pos (by omega), List.getElem?_set_ne (by omega)]
  ·subst h1
   rw [if_pos (by omega), if_pos (by omega), if_pos (by omega), if_pos (by omega), if_neg (by omega), List.getElem?_set_self (by omega)]
   rw [show i - min i cells.length = 0 from by omega]; rfl
  ·by_cases h2 : i < off + 1 + r.length
   ·rw [if_pos (by omega), if_neg (by omega), if_pos (by omega), if_neg (by omega)]
    rw [show i - min off cells.length = (i - min (off + 1) cells.length) + 1 from by omega]
    rfl
   ·rw [if_neg (by omega), if_neg (by omega), List.getElem?_set_ne (by omega)]
    congr 1
    omega
theorem flatL_splice {cells vs : List V} {o n : Nat} (h : V.flatL cells = true) (hv : V.flatL vs = true) : V.flatL (cells.take o ++ vs ++ cells.drop n) = true :=
 flatL_append (flatL_append (flatL_take o h) hv) (flatL_drop n h)
theorem plainL_take : ∀ {l : List V} (n : Nat), V.plainL l = true → V.plainL (l.take n) = true
 | [], n, h => by simpa using h
 | v :: r, 0, h => by simp [V.plainL]
 | v :: r, n + 1, h => by
  simp only [V.plainL, List.take_succ_cons, Bool.and_eq_true] at h ⊢
  exact ⟨h.1, plainL_take n h.2⟩
theorem plainL_drop : ∀ {l : List V} (n : Nat), V.plainL l = true → V.plainL (l.drop n) = true
 | [], n, h => by simpa using h
 | v :: r, 0, h => by simpa using h
 | v :: r, n + 1, h => by
  simp only [V.plainL, List.drop_succ_cons, Bool.and_eq_true] at h ⊢
  exact plainL_drop n h.2
theorem plainL_append : ∀ {a b : List V}, V.plainL a = true → V.plainL b = true → V.plainL (a ++ b) = true
 | [], b, _, h => h
 | v :: r, b, h, h' => by
  simp only [V.plainL, List.cons_append, Bool.and_eq_true] at h ⊢
  exact ⟨h.1, plainL_append h.2 h'⟩
theorem plainL_splice {cells vs : List V} {o n : Nat} (h : V.plainL cells = true) (hv : V.plainL vs = true) : V.plainL (cells.take o ++ vs ++ cells.drop n) = true :=
 plainL_append (plainL_append (plainL_take o h) hv) (plainL_drop n h)
theorem downIf {d : Nat} {vs vs' : List V} {l : List Value} (hd : (if d = 0 then some vs else V.downL d vs) = some vs') (hr : ORelL ok w B vs l) : ORelL ok w (B.from_ d) vs' l := by
 split at hd
 ·rename_i h0; subst h0
  simp only [Option.some.injEq] at hd; subst hd
  rwa [Bd.from_zero]
 ·exact ORelL.down d vs vs' l hd hr
theorem splice_row (hh : HR ok w B p h) {d j b ep esz : Nat} (hE : B d j = .row (some b) ep esz) {cells : List V} {flat plain : Bool} (hg : h.get d j = some (.row cells ep esz flat plain))
  {vs : List V} {l : List Value} (hr : ORelL ok w (B.from_ d) vs l) {off : Nat} (hoff : esz / 4294967296 ≤ off) (hfit : off + vs.length ≤ cells.length) {flat2 plain2 : Bool}
  (hf : flat2 = true → V.flatL (cells.take off ++ vs ++ cells.drop (off + vs.length)) = true) (hp : plain2 = true → V.plainL (cells.take off ++ vs ++ cells.drop (off + vs.length)) = true) :
  ∃ w' B', (storeCells ⟨b, off, none⟩ l).run P w = .ok () w' ∧ Ext ok B w ok B' w' ∧ HR ok w' B' p (h.set d j (.row (cells.take off ++ vs ++ cells.drop (off + vs.length)) ep esz flat2 plain2)) := by
 obtain ⟨b', hE', hfl, hpl, hrow⟩ := hh.row hg (by rw [hE]; simp)
 rw [hE] at hE'
 simp only [Ent.row.injEq, and_true] at hE'
 obtain ⟨rfl⟩ := hE'
 obtain ⟨cur, el, lo, hi, g1, g2, c1, c2, g3, g4⟩ := hrow
 have hl1 := g4.length
 have hl2 := hr.length
 have hsz : cur.size = c1.length + c2.length := by rw [← Array.length_toList, g3, List.length_append]
 have hrun := run_storeCells_fr (P := P) b off el (lo, hi) l 0 cur w g1 g2 (by omega) hr.ones
 simp only [Nat.add_zero] at hrun
 have hsplit : (cur.toList.take off ++ l ++ cur.toList.drop (off + l.length)).toArray.toList = (c1.take off ++ l ++ c1.drop (off + l.length)) ++ c2 := by
  simp only [g3]
  rw [List.take_append_of_le_length (by omega), List.drop_append_of_le_length (by omega)]
  simp [List.append_assoc]
 obtain ⟨hx, hh'⟩ := set_row hh hE (Nat.le_refl ep) hg g1 (cs := (cur.toList.take off ++ l ++ cur.toList.drop (off + l.length)).toArray) (by simp; omega) (fun i hi => by
   have hio : i < off := Nat.lt_of_lt_of_le hi hoff
   rw [← Array.getElem?_toList, ← Array.getElem?_toList (xs := cur)]
   simp only [List.append_assoc]
   rw [List.getElem?_append_left (by simp; omega), List.getElem?_take_of_lt hio]) g2 hsplit
  (cells2 := cells.take off ++ vs ++ cells.drop (off + vs.length)) (by rw [← hl2]; exact ((g4.take off).append hr).append (g4.drop _)) hf hp
 exact ⟨_, _, hrun, hx, hh'⟩
theorem store_rel (hh : HR ok w B p h) {a : V} {a' : Value} {vs : List V} {l : List Value} {h' : Heap} (hs : h.store a vs = some h') (ha : VRel ok w B a a') (hv : VRelL ok w B vs l) :
  ∃ x w' B', a' = .pointer (some x) ∧ (storeCells x l).run P w = .ok () w' ∧ Ext ok B w ok B' w' ∧ HR ok w' B' p h' := by
 unfold Heap.store at hs
 split at hs
 ·rename_i d j off ep
  split at hs
  ·rename_i cells ep' esz flat plain hg
   split at hs
   ·rename_i hc
    obtain ⟨rfl, hfit, hok, hsz⟩ := hc
    simp only [Option.bind_eq_some_iff, Option.some.injEq] at hs
    obtain ⟨vs', hd, rfl⟩ := hs
    have hn : B d j ≠ .out := by intro hE; simp only [VRel, hE] at ha
    obtain ⟨b, hE, hf, hp, hr⟩ := hh.row hg hn
    simp only [VRel, hE] at ha
    rcases ha with ⟨hlt, _⟩ | ⟨_, b0, rfl, rfl⟩
    ·omega
    ·have hrel := downIf hd (VRelL.orel hok hv)
     have hlen : vs'.length = vs.length := by rw [hrel.length, ← hv.length]
     have hst := storeN_eq vs' cells off (by omega)
     rw [hst]
     obtain ⟨w', B', hrun, hx, hh'⟩ := splice_row (P := P) hh hE hg hrel (off := off) (by omega) (by omega) (flat2 := flat && V.flatL vs') (plain2 := plain && V.plainL vs')
      (fun h => by simp only [Bool.and_eq_true] at h; exact flatL_splice (hf h.1) h.2) (fun h => by simp only [Bool.and_eq_true] at h; exact plainL_splice (hp h.1) h.2)
     exact ⟨_, w', B', rfl, hrun, hx, hh'⟩
   ·cases hs
  ·cases hs
 ·cases hs
theorem cells_vrel {v : V} {c : Value} (h : VRel ok w B v c) (hok : okCells v.cells = true) : VRelL ok w B v.cells c.cells.toList := (VRel.cells hok h).vrel
theorem store_ok {a : V} {vs : List V} {h' : Heap} (hs : h.store a vs = some h') : okCells vs = true := by
 unfold Heap.store at hs
 split at hs
 ·split at hs
  ·split at hs
   ·rename_i hc; exact hc.2.2.1
   ·cases hs
  ·cases hs
 ·cases hs
theorem storeV_rel (hh : HR ok w B p h) {t : TypeId} {a x : V} {a' x' : Value} {h' : Heap} (hs : storeV P h t a x = some h') (ha : VRel ok w B a a') (hx : VRel ok w B x x') :
  ∃ w' B', (Instr.storeAt t a' x').run P w = .ok () w' ∧ Ext ok B w ok B' w' ∧ HR ok w' B' p h' := by
 simp only [storeV, Option.bind_eq_some_iff] at hs
 obtain ⟨n, hn, hs⟩ := hs
 split at hs
 ·rename_i hl
  have hok := store_ok hs
  have hc := cells_vrel hx hok
  obtain ⟨y, w', B', rfl, hrun, he, hh'⟩ := store_rel (P := P) hh hs ha hc
  have hsz : x'.cells.size = n := by have := hc.length; simp at this; omega
  exact ⟨w', B', by simp [Instr.storeAt, Instr.sureAddr, storeVar, r_size hn, hsz, hrun], he, hh'⟩
 ·cases hs
theorem str_cells (s : List UInt8) : ORelL ok w B (s.map u8) (s.map fun b => Value.int .u8 b.toNat) := by
 induction s with
 | nil => simp [ORelL]
 | cons b r ih => simp only [List.map_cons, ORelL]; exact ⟨_, _, rfl, rfl, by simp [u8, VRel], ih⟩
theorem first_rel (hh : HR ok w B p h) {x : V} {x' : Value} {k n m : Nat} {news : List V} 
  (hc : (match x with | .str b => some ((b.take n).map u8) | x => h.sliceCells x k n) = some news) (hl : lenV x = some m) (hn : n ≤ m) (hx : VRel ok w B x x') :
  ∃ l : List Value, (Builtin.lenOf x').run P w = .ok m w ∧ (∀ w', (∀ a, w'.cell? a = w.cell? a) → (Builtin.firstCells k n x').run P w' = .ok l.toArray w') ∧ ORelL ok w B news l := by
 by_cases hs : ∃ s, x = .str s
 ·obtain ⟨s, rfl⟩ := hs
  simp only [lenV, Option.some.injEq] at hl
  simp only [Option.some.injEq] at hc; subst hc
  simp only [VRel] at hx; subst hx
  refine ⟨(s.take n).map fun b => Value.int .u8 b.toNat, by simp [Builtin.lenOf, ByteArray.size, hl], fun w' _ => ?_, str_cells _⟩
  simp only [Builtin.firstCells, Sem.run_pure]
  congr 1
  apply Array.ext'
  simp [ByteArray.extract, ByteArray.copySlice]
 ·have hc' : h.sliceCells x k n = some news := by
   cases x <;> first | exact hc | exact absurd ⟨_, rfl⟩ hs
  obtain ⟨b, cap, rfl, h1, h2⟩ := slice_len hl hx (fun s e => hs ⟨s, e⟩)
  obtain ⟨a, len, cap', l', he, g1, g2, g3, g4⟩ := slice_cells_rel hh hc' hx
  simp only [Value.slice.injEq] at he
  obtain ⟨rfl, rfl, rfl⟩ := he
  refine ⟨l', by simp [Builtin.lenOf], fun w' hw' => ?_, g4⟩
  cases b with
  | none =>
   obtain rfl := g2 rfl
   simp at g1; subst g1
   exact run_firstCells_none w' k 0 _ _
  | some b => exact run_firstCells_some w' k n b m cap l' g1 fun i c hi => by rw [hw']; exact g3 b rfl i c hi
mutual
theorem plain_flat : ∀ {v : V}, V.plain v = true → V.flat v = true
 | .bool _, h | .int _ _, h | .float _ _, h | .str _, h | .nilptr, h | .nilslice, h | .nilfunc, h | .niliface, h | .nilmap, h => h
 | .poison, h | .pref _ _ _ _, h | .sref _ _ _ _ _ _, h | .mref _ _, h | .yield _ _, h => h
 | .pcon _ _, h | .scon _ _ _ _, h => rfl
 | .func _ a b, h => by simp only [V.plain, V.flat, Bool.and_eq_true] at h ⊢; exact ⟨plainL_flat h.1, plainL_flat h.2⟩
 | .iface _ v, h => by simp only [V.plain, V.flat] at h ⊢; exact plain_flat h
 | .agg cs, h => by simp only [V.plain, V.flat] at h ⊢; exact plainL_flat h
 | .tuple cs, h => by simp only [V.plain, V.flat] at h ⊢; exact plainL_flat h
theorem plainL_flat : ∀ {l : List V}, V.plainL l = true → V.flatL l = true
 | [], _ => rfl
 | v :: r, h => by simp only [V.plainL, V.flatL, Bool.and_eq_true] at h ⊢; exact ⟨plain_flat h.1, plainL_flat h.2⟩
end
theorem plainL_rep {z : List V} (h : V.plainL z = true) (n : Nat) : V.plainL (rep z n) = true := by
 rw [rep_eq]
 induction n with
 | zero => rfl
 | succ n ih => rw [List.replicate_succ, List.flatten_cons]; exact plainL_append h ih
theorem copy_rel (hh : HR ok w B p h) {t ty : TypeId} {r : Array TypeId} {dst src v : V} {dst' src' : Value} {h' : Heap} (hc : copyV P h t dst src = some (v, h')) (ht : r[0]? = some t)
  (hd : VRel ok w B dst dst') (hs : VRel ok w B src src') :
  ∃ c w' B', (Builtin.copy_ r ty #[dst', src']).run P w = .ok c w' ∧ Ext ok B w ok B' w' ∧ HR ok w' B' p h' ∧ VRel ok w' B' v c := by
 unfold copyV at hc
 split at hc
 ·rename_i elem hu
  simp only [Option.bind_eq_some_iff] at hc
  obtain ⟨k, hk, dl, hdl, sl, hsl, _, hstr, news, hnews, hc⟩ := hc
  obtain ⟨l, hlen, hfirst, hrel⟩ := first_rel (P := P) hh hnews hsl (Nat.min_le_left sl dl) hs
  have hfirst' := hfirst w (fun _ => rfl)
  have hds : ∀ s, dst ≠ .str s := by rintro s rfl; simp at hstr
  obtain ⟨b, cap, rfl, g1, g2⟩ := slice_len hdl hd hds
  have hmin : Nat.min sl dl = min sl dl := rfl
  split at hc
  ·rename_i hn
   simp only [Option.some.injEq, Prod.mk.injEq] at hc
   obtain ⟨rfl, rfl⟩ := hc
   have hl0 : l = [] := by
    have h1 := hrel.length
    have h2 : news.length = 0 := by
     cases src <;> simp only [hn] at hnews
     case str s => simp at hnews; subst hnews; rfl
     all_goals
      obtain ⟨_, _, _, l', _, e1, _, _, e4⟩ := slice_cells_rel hh hnews hs
      have := e4.length
      simp at e1; subst e1; simpa using this
    exact List.eq_nil_of_length_eq_zero (by omega)
   subst hl0
   refine ⟨goInt 0, w, B, ?_, Ext.refl ok B w, hh, ?_⟩
   ·rw [hn] at hfirst'
    cases b <;> simp [hn, Builtin.copy_, ht, r_under hu, hlen, r_size hk, hfirst', storeCells]
   ·simp [VRel, goInt]
  ·rename_i hn
   split at hc
   ·rename_i d j off dl' ep q
    split at hc
    ·rename_i cells ep' esz flat plain hg
     split at hc
     ·rename_i hcond
      obtain ⟨rfl, hfit, hnl, hok, hesz⟩ := hcond
      simp only [Option.bind_eq_some_iff, Option.some.injEq, Prod.mk.injEq] at hc
      obtain ⟨news', hd', rfl, rfl⟩ := hc
      simp only [lenV, Option.some.injEq] at hdl; subst hdl
      have hno : B d j ≠ .out := by intro hE; simp only [VRel, hE] at hd
      obtain ⟨b', hE, hf, hp, hr⟩ := hh.row hg hno
      simp only [VRel, hE] at hd
      rcases hd with ⟨hlt, _⟩ | ⟨_, hd⟩
      ·omega
      ·rcases hd with ⟨b0, cap', o, rfl, hv, e1, e2, e3, e4⟩ | ⟨_, _, h0, _⟩
       ·simp only [Value.slice.injEq] at hv
        obtain ⟨rfl, _, rfl⟩ := hv
        have hrel' := downIf hd' hrel
        have hlen' : news'.length = min sl dl' * k := by rw [hrel'.length, ← hrel.length, hnl]
        obtain rfl := e3 (by omega)
        obtain ⟨w', B', hrun, hx, hh'⟩ := splice_row (P := P) hh hE hg hrel' (off := o) (by omega) (by omega) (flat2 := flat && V.flatL news') (plain2 := plain && V.plainL news')
         (fun h => by simp only [Bool.and_eq_true] at h; exact flatL_splice (hf h.1) h.2) (fun h => by simp only [Bool.and_eq_true] at h; exact plainL_splice (hp h.1) h.2)
        rw [hlen'] at hh'
        refine ⟨goInt ((min sl dl' : Nat) : Int), w', B', ?_, hx, hh', ?_⟩
        ·simp [Builtin.copy_, ht, r_under hu, hlen, r_size hk, hmin, hfirst', hrun]
        ·simp [VRel, goInt]
       ·subst h0; simp at hn
     ·cases hc
    ·cases hc
   ·cases hc
 ·cases hc
theorem clear_rel (hh : HR ok w B p h) {t ty : TypeId} {r : Array TypeId} {x v : V} {x' : Value} {h' : Heap} (hc : clearV P h t x = some (v, h')) (ht : r[0]? = some t)
  (hx : VRel ok w B x x') : ∃ c w' B', (Builtin.clear_ r ty #[x']).run P w = .ok c w' ∧ Ext ok B w ok B' w' ∧ HR ok w' B' p h' ∧ VRel ok w' B' v c := by
 unfold clearV at hc
 split at hc
 ·rename_i elem hu
  simp only [Option.bind_eq_some_iff] at hc
  obtain ⟨k, hk, z, hz, _, hstr, n, hn, hc⟩ := hc
  have hds : ∀ s, x ≠ .str s := by rintro s rfl; simp at hstr
  obtain ⟨b, cap, rfl, g1, g2⟩ := slice_len hn hx hds
  split at hc
  ·rename_i hn0
   subst hn0
   simp only [Option.some.injEq, Prod.mk.injEq] at hc
   obtain ⟨rfl, rfl⟩ := hc
   refine ⟨.tuple #[], w, B, ?_, Ext.refl ok B w, hh, ?_⟩
   ·cases b <;> simp [Builtin.clear_, ht, r_under hu]
   ·simp only [V.undef, VRel]; exact ⟨[], rfl, rfl⟩
  ·rename_i hn0
   split at hc
   ·rename_i d j off n' ep q
    simp only [lenV, Option.some.injEq] at hn; subst hn
    split at hc
    ·rename_i cells ep' esz flat plain hg
     split at hc
     ·rename_i hcond
      obtain ⟨rfl, hfit, hzk, hok, hpl, hesz⟩ := hcond
      simp only [Option.some.injEq, Prod.mk.injEq] at hc
      obtain ⟨rfl, rfl⟩ := hc
      have hno : B d j ≠ .out := by intro hE; simp only [VRel, hE] at hx
      obtain ⟨b', hE, hf, hp, hr⟩ := hh.row hg hno
      simp only [VRel, hE] at hx
      rcases hx with ⟨hlt, _⟩ | ⟨_, hd⟩
      ·omega
      ·rcases hd with ⟨b0, cap', o, rfl, hv, e1, e2, e3, e4⟩ | ⟨_, _, h0, _⟩
       ·simp only [Value.slice.injEq] at hv
        obtain ⟨rfl, _, rfl⟩ := hv
        obtain rfl := e3 (by omega)
        obtain ⟨zv, hzr, hzv⟩ := r_zero (w := w) hz
        have hzc := zero_cells (ok := ok) (w := w) (B := B.from_ d) hzv
        have hrel := rep_rel n' hzc
        have hpr : V.plainL (rep z.cells n') = true := plainL_rep hpl n'
        have hlen' : (rep z.cells n').length = n' * k := by rw [rep_length, hzk]
        obtain ⟨w', B', hrun, hx, hh'⟩ := splice_row (P := P) hh hE hg hrel (off := o) (by omega) (by omega) (flat2 := flat) (plain2 := plain)
         (fun h => flatL_splice (hf h) (plainL_flat hpr)) (fun h => plainL_splice (hp h) hpr)
        rw [hlen'] at hh'
        refine ⟨.tuple #[], w', B', ?_, hx, hh', ?_⟩
        ·cases n' with
         | zero => simp at hn0
         | succ n' =>
          simp [Builtin.clear_, ht, r_under hu, hzr, Builtin.zeroCells] at hrun ⊢
          simp [hrun]
        ·simp only [V.undef, VRel]; exact ⟨[], rfl, rfl⟩
       ·subst h0; simp at hn0
     ·cases hc
    ·cases hc
   ·cases hc
 ·cases hc
end
end Go.Sim
end
section
namespace Go.Sim
open Go
section
variable {E : Env} {P : Program} {w : World} {ok : Nat → Nat → Prop} {B : Bd} {p : Array Oper → Bool} {h : Heap}
inductive NewsRun (P : Program) (w : World) (r : Array TypeId) (i : TypeInfo) (z : Value) (x : Value) (n : Nat) (l : List Value) : Prop
 | read (hz : r[1]? = none ∨ ∃ xt d, r[1]? = some xt ∧ P.underlying xt = some d ∧ ∀ k, d ≠ .int k)
   (hlen : (Builtin.lenOf x).run P w = .ok n w) (hf : ∀ w', (∀ a, w'.cell? a = w.cell? a) → (Builtin.firstCells i.size n x).run P w' = .ok l.toArray w')
 | zeros (kk : IntKind) (m : Int) (hz : ∃ xt k, r[1]? = some xt ∧ P.underlying xt = some (.int k))
   (hx : x = .int kk m) (h0 : 0 ≤ m) (h46 : m ≤ 2 ^ 46) (hn : m.toNat = n) (hb : m * i.bytes ≤ 2 ^ 46) (hl : l.toArray = Builtin.zeroCells z.cells n)
theorem wrap_small {m : Int} (h0 : 0 ≤ m) (h1 : m ≤ 2 ^ 46) : IntKind.i64.wrap m = m := by
 rw [IntKind.wrap_i64]; omega
theorem append_room {r : Array TypeId} {t ty elem : TypeId} {i : TypeInfo} {z : Value} (ht : r[0]? = some t) (hu : P.underlying t = some (.slice elem)) (hi : P.info? elem = some i) (hz : i.zero = some z)
  (hzs : z.cells.size = i.size) {x : Value} {n : Nat} {l : List Value} (hn : NewsRun P w r i z x n l) {base : Option Addr} {len cap : Nat} (hroom : len + n ≤ cap) :
  (Builtin.append_ r ty #[.slice base len cap, x]).run P w =
   ((match base with | some a => storeCells (a.add (len * i.size)) l | none => pure () : Sem Unit).run P w).andThen fun _ w' => .ok (.slice base (len + n) cap) w' := by
 have hdrop : (w : World) = w := rfl
 cases hn with
 | read hz' hlen hf =>
  have hf' := hf w (fun _ => rfl)
  rcases hz' with hr | ⟨xt, d, hr, hd, hnd⟩
  ·cases base <;> simp [Builtin.append_, ht, hr, r_under hu, sizeOf, typeInfo, hi, hlen, hroom, hf']
  ·have hm : (match d with | .int k => true | _ => false) = false := by cases d <;> first | rfl | exact absurd rfl (hnd _)
   cases base <;> simp [Builtin.append_, ht, hr, r_under hu, r_under hd, sizeOf, typeInfo, hi, hlen, hroom, hf', hm]
 | zeros kk m hz' hx h0 h46 hm hb hl =>
  subst hx
  obtain ⟨xt, kx, hr, hd⟩ := hz'
  have h1 : ¬ m < 0 := by omega
  have h2 : ¬ (281474976710656 < m * (i.bytes : Int)) := by omega
  have h3 := wrap_small h0 h46
  by_cases hnk : n * i.size = 0
  ·have hl0 : l = [] := by
    have : l.toArray.size = 0 := by rw [hl, size_zeroCells, hzs, hnk]
    simpa using this
   subst hl0
   cases base <;> simp [Builtin.append_, ht, r_under hu, sizeOf, typeInfo, hi, hr, r_under hd, asInt, asIntOf, h3, h1, h2, hm, hroom, hnk]
  ·cases base <;> simp [Builtin.append_, ht, r_under hu, sizeOf, typeInfo, hi, hr, r_under hd, asInt, asIntOf, h3, h1, h2, hm, hroom, hnk, zeroValue, hz, ← hl]
theorem append_grow {r : Array TypeId} {t ty elem : TypeId} {i : TypeInfo} {z : Value} (ht : r[0]? = some t) (hu : P.underlying t = some (.slice elem)) (hi : P.info? elem = some i) (hz : i.zero = some z)
  (hzs : z.cells.size = i.size) {x : Value} {n : Nat} {l : List Value} (hn : NewsRun P w r i z x n l) {base : Option Addr} {len cap : Nat} (hroom : cap < len + n)
  {olds : List Value} (ho : (Builtin.firstCells i.size len (.slice base len cap)).run P w.drew = .ok olds.toArray w.drew) (hb0 : 0 < i.bytes) (hb : (len + n) * i.bytes ≤ 2 ^ 47) :
  (Builtin.append_ r ty #[.slice base len cap, x]).run P w =
   .ok (.slice (some ⟨w.heap.size, 0, none⟩) (len + n) (grownCap w (len + n) cap elem)) (w.drew.alloc (.cells (olds.toArray ++ l.toArray ++ Builtin.zeroCells z.cells (grownCap w (len + n) cap elem - (len + n))) elem)) := by
 have hle : len + n ≤ 2 ^ 47 := Nat.le_trans (Nat.le_mul_of_pos_right _ hb0) hb
 have n1 : ¬ (len + n ≤ cap) := by omega
 have n2 : ¬ (9223372036854775807 < (len : Int) + (n : Int)) := by omega
 have n3 : ¬ (281474976710656 < Builtin.nextslicecap (len + n) cap * i.bytes) := by
  have := growslice_fits (bytes := i.bytes) hroom (by omega); omega
 cases hn with
 | read hz' hlen hf =>
  have hf' := hf w.drew (fun _ => rfl)
  rcases hz' with hr | ⟨xt, d, hr, hd, hnd⟩
  ·simp [Builtin.append_, ht, hr, r_under hu, sizeOf, typeInfo, hi, hlen, n1, n2, n3, hf', ho, Question.forced, zeroValue, hz, Go.newRow, grownCap]
   try (congr 2; apply Array.ext'; simp [List.append_assoc])
  ·have hm : (match d with | .int k => true | _ => false) = false := by cases d <;> first | rfl | exact absurd rfl (hnd _)
   simp [Builtin.append_, ht, hr, r_under hu, r_under hd, sizeOf, typeInfo, hi, hlen, n1, n2, n3, hf', ho, Question.forced, zeroValue, hz, Go.newRow, grownCap, hm]
   try (congr 2; apply Array.ext'; simp [List.append_assoc])
 | zeros kk m hz' hx h0 h46 hm hb' hl =>
  subst hx
  obtain ⟨xt, kx, hr, hd⟩ := hz'
  have h1 : ¬ m < 0 := by omega
  have h2 : ¬ (281474976710656 < m * (i.bytes : Int)) := by omega
  have h3 := wrap_small h0 h46
  have n2' : ¬ (9223372036854775807 < (len : Int) + max m 0) := by omega
  by_cases hnk : n * i.size = 0
  ·have hl0 : l = [] := by
    have : l.toArray.size = 0 := by rw [hl, size_zeroCells, hzs, hnk]
    simpa using this
   subst hl0
   simp [Builtin.append_, ht, r_under hu, sizeOf, typeInfo, hi, hr, r_under hd, asInt, asIntOf, h3, h1, h2, hm, n1, n2', n3, ho, Question.forced, hnk, zeroValue, hz, Go.newRow, grownCap]
  ·simp [Builtin.append_, ht, r_under hu, sizeOf, typeInfo, hi, hr, r_under hd, asInt, asIntOf, h3, h1, h2, hm, n1, n2', n3, ho, Question.forced, hnk, zeroValue, hz, Go.newRow, grownCap, ← hl]
   try (congr 2; apply Array.ext'; simp [List.append_assoc])
theorem newsA_rel (hh : HR ok w B p h) {k n : Nat} {x : V} {x' : Value} {news : List V} (hn : newsA h k x = some (n, news)) (hx : VRel ok w B x x') :
  ∃ l : List Value, (Builtin.lenOf x').run P w = .ok n w ∧ (∀ w', (∀ a, w'.cell? a = w.cell? a) → (Builtin.firstCells k n x').run P w' = .ok l.toArray w') ∧ ORelL ok w B news l := by
 by_cases hs : ∃ s, x = .str s
 ·obtain ⟨s, rfl⟩ := hs
  simp only [newsA, Option.some.injEq, Prod.mk.injEq] at hn
  obtain ⟨rfl, rfl⟩ := hn
  exact first_rel (P := P) hh (x := .str s) (k := k) (n := s.length) (m := s.length) (news := s.map u8) (by simp) rfl (Nat.le_refl _) hx
 ·have hn' : (lenV x).bind (fun n => (h.sliceCells x k n).bind fun cs => some (n, cs)) = some (n, news) := by
   cases x <;> first | exact hn | exact absurd ⟨_, rfl⟩ hs
  simp only [Option.bind_eq_some_iff, Option.some.injEq, Prod.mk.injEq] at hn'
  obtain ⟨m, hm, cs, hcs, rfl, rfl⟩ := hn'
  refine first_rel (P := P) hh (k := k) ?_ hm (Nat.le_refl _) hx
  cases x <;> first | exact hcs | exact absurd ⟨_, rfl⟩ hs
theorem newsV_rel (hh : HR ok w B p h) {r : Array TypeId} {elem : TypeId} {i : TypeInfo} {z : Value} (hi : P.info? elem = some i) (hz : i.zero = some z) {k n : Nat} {x : V} {x' : Value} {news : List V}
  (hk : i.size = k) (hn : newsV P h elem k r[1]? x = some (n, news)) (hx : VRel ok w B x x') : ∃ l, NewsRun P w r i z x' n l ∧ ORelL ok w B news l := by
 subst hk
 unfold newsV at hn
 split at hn
 ·rename_i hr
  obtain ⟨l, h1, h2, h3⟩ := newsA_rel (P := P) hh hn hx
  exact ⟨l, .read (.inl hr) h1 h2, h3⟩
 ·rename_i t hr
  split at hn
  ·cases hn
  ·rename_i kd hu
   split at hn
   ·rename_i kk m
    simp only [VRel] at hx; subst hx
    split at hn
    ·rename_i hc
     simp only [Option.bind_eq_some_iff] at hn
     obtain ⟨zz, hzz, by_, hby, hn⟩ := hn
     split at hn
     ·rename_i hc2
      simp only [Option.some.injEq, Prod.mk.injEq] at hn
      obtain ⟨rfl, rfl⟩ := hn
      obtain ⟨i', hi', hib⟩ := r_bytes hby
      rw [hi] at hi'
      simp only [Option.some.injEq] at hi'; subst hi'
      have hzv : ofValue z = some zz := by
       simp only [zeroV, hi, Option.bind_some, hz] at hzz; exact hzz
      have hrel := rep_rel m.toNat (zero_cells (ok := ok) (w := w) (B := B) hzv)
      refine ⟨(Builtin.zeroCells z.cells m.toNat).toList, .zeros kk m ⟨_, _, hr, hu⟩ rfl hc.1 hc.2 rfl (by rw [hib]; exact hc2.2) (by simp), ?_⟩
      exact hrel
     ·cases hn
    ·cases hn
   ·cases hn
  ·rename_i d hni hu
   obtain ⟨l, h1, h2, h3⟩ := newsA_rel (P := P) hh hn hx
   exact ⟨l, .read (.inr ⟨t, d, hr, hu, fun k e => hni k e⟩) h1 h2, h3⟩
theorem regrow_row (hh : HR ok w B p h) {d j ep esz : Nat} {b : Option Nat} (hE : B d j = .row b ep esz) {x : Blk} (hx0 : h.get d j = some x) (cs : Array Value) (el : TypeId)
  {c1 c2 : List Value} (hc : cs.toList = c1 ++ c2) {cells2 : List V} (hr : ORelL ok w (B.from_ d) cells2 c1) {flat2 plain2 : Bool} (hf : flat2 = true → V.flatL cells2 = true) (hp : plain2 = true → V.plainL cells2 = true) :
  Ext ok B w ok (B.put d j (.row (some w.heap.size) (ep + 1) esz)) (w.alloc (.cells cs el)) ∧
  HR ok (w.alloc (.cells cs el)) (B.put d j (.row (some w.heap.size) (ep + 1) esz)) p (h.set d j (.row cells2 (ep + 1) esz flat2 plain2)) := by
 have hx : Ext ok B w ok (B.put d j (.row (some w.heap.size) (ep + 1) esz)) (w.alloc (.cells cs el)) := by
  refine ⟨by simp, rfl, rfl, rfl, fun k hk _ => heap_push_lt w _ hk, OkLe.heap (fun _ _ h => h) (fun b' n hb' => heap_push_lt w _ (hh.okn b' n hb').1), fun _ _ _ h => .inl h, fun d' j' => ?_, fun d' j' k hk hlt => ?_⟩
  ·by_cases hq : d' = d ∧ j' = j
   ·obtain ⟨rfl, rfl⟩ := hq
    rw [Bd.put_same, hE]
    exact .inr ⟨_, _, _, rfl, .inl (Nat.lt_succ_self _)⟩
   ·rw [Bd.put_other B _ hq]
    exact EntLe.refl _ fun k hk => by
     have := hh.lt _ _ _ hk
     simp only [csize, heap_push_lt w _ this]; exact Nat.le_refl _
  ·by_cases hq : d' = d ∧ j' = j
   ·obtain ⟨rfl, rfl⟩ := hq
    rw [Bd.put_same] at hk
    simp only [Ent.blk, Option.some.injEq] at hk
    omega
   ·rw [Bd.put_other B _ hq] at hk; exact hk
 refine ⟨hx, HR.put hx hh (by rw [Heap.length_set]; exact hh.pos) ?_ ?_ ?_ ?_⟩
 ·intro d' j' k hne hk
  exact heap_push_lt w _ (hh.lt d' j' k hk)
 ·intro d' j' hne _
  rw [Heap.get_set hx0, if_neg hne]
 ·intro k hk
  simp only [Ent.blk, Option.some.injEq] at hk; subst hk
  refine ⟨by simp, fun n hok => ?_, fun d' j' _ hm => ?_⟩
  ·have := (hh.okn _ _ hok).1; omega
  ·have := hh.lt d' j' _ hm; omega
 ·rw [Heap.get_set hx0, if_pos ⟨rfl, rfl⟩]
  exact ⟨cells2, flat2, plain2, rfl, hf, hp, cs, el, 0, 0, heap_push_new w _, .inl rfl, c1, c2, hc, hx.orelL_from hh d hr⟩
theorem append_new (hh : HR ok w B p h) {r : Array TypeId} {t ty elem : TypeId} {i : TypeInfo} {z : Value} (ht : r[0]? = some t) (hu : P.underlying t = some (.slice elem)) (hi : P.info? elem = some i) (hz : i.zero = some z)
  (hzs : z.cells.size = i.size) {x : Value} {n : Nat} {l : List Value} (hn : NewsRun P w r i z x n l) {base : Option Addr} {len cap : Nat} (hroom : cap < len + n)
  {olds : List Value} (ho : ∀ w', (∀ a, w'.cell? a = w.cell? a) → (Builtin.firstCells i.size len (.slice base len cap)).run P w' = .ok olds.toArray w') (hb0 : 0 < i.bytes) (hb : (len + n) * i.bytes ≤ 2 ^ 47)
  {k : Nat} (hk : i.size = k) {cells : List V} (hr : ORelL ok w B cells (olds ++ l)) (hlen : cells.length = (len + n) * k) :
  ∃ c w' B', (Builtin.append_ r ty #[.slice base len cap, x]).run P w = .ok c w' ∧ Ext ok B w ok B' w' ∧ HR ok w' B' p (newRow h cells k).2 ∧ VRel ok w' B' (.sref 0 h.top.length 0 (len + n) 0 (k, false)) c := by
 have hrun := append_grow (ty := ty) ht hu hi hz hzs hn hroom (ho w.drew (fun _ => rfl)) hb0 hb
 have hr' := (Ext.drew ok B w).orelL hh hr
 obtain ⟨hx, hh'⟩ := new_row (hh.drew) (cs := olds.toArray ++ l.toArray ++ Builtin.zeroCells z.cells (grownCap w (len + n) cap elem - (len + n))) elem k
  (c1 := olds ++ l) (c2 := (Builtin.zeroCells z.cells (grownCap w (len + n) cap elem - (len + n))).toList) (by simp) hr'
 refine ⟨_, _, _, hrun, (Ext.drew ok B w).trans hx, hh', ?_⟩
 have hge := grownCap_ge w (len + n) cap elem
 have hcl := hr.length
 simp only [List.length_append] at hcl
 refine new_sref hge (by simp) ?_
 rw [csize_new]
 simp only [Array.size_append, List.size_toArray, size_zeroCells, hzs, hk]
 rw [← hcl, hlen, ← Nat.add_mul]
 exact Nat.mul_le_mul_right _ (by omega)
end
end Go.Sim
end
section
namespace Go.Sim
open Go
section
variable {E : Env} {P : Program} {w : World} {ok : Nat → Nat → Prop} {B : Bd} {p : Array Oper → Bool} {h : Heap}
theorem firstCells_of {k n : Nat} {a : Option Addr} {len cap : Nat} {l : List Value} (hl : l.length = n * k) (h0 : a = none → n = 0) (hc : ∀ x, a = some x → ∀ j c, l[j]? = some c → w.cell? (x.add j) = some c) :
  ∀ w', (∀ a, w'.cell? a = w.cell? a) → (Builtin.firstCells k n (.slice a len cap)).run P w' = .ok l.toArray w' := by
 intro w' hw'
 cases a with
 | none =>
  have := h0 rfl
  subst this
  simp at hl; subst hl
  exact run_firstCells_none w' k 0 _ _
 | some b => exact run_firstCells_some w' k n b len cap l hl fun i c hi => by rw [hw']; exact hc b rfl i c hi
theorem append_rel (hh : HR ok w B p h) {t ty : TypeId} {r : Array TypeId} {s x v : V} {s' x' : Value} {h' : Heap} (hc : appendV P h t r[1]? s x = some (v, h')) (ht : r[0]? = some t)
  (hs : VRel ok w B s s') (hx : VRel ok w B x x') :
  ∃ c w' B', (Builtin.append_ r ty #[s', x']).run P w = .ok c w' ∧ Ext ok B w ok B' w' ∧ HR ok w' B' p h' ∧ VRel ok w' B' v c := by
 unfold appendV at hc
 split at hc
 ·rename_i elem hu
  simp only [Option.bind_eq_some_iff] at hc
  obtain ⟨k, hk, by_, hby, zz, hzz, len, hlen, ⟨n, news⟩, hnews, hc⟩ := hc
  dsimp only at hc
  split at hc
  ·cases hc
  ·rename_i hcond
   simp only [not_or, Nat.not_lt, ne_eq, Decidable.not_not] at hcond
   obtain ⟨hk0, hb0, hb46, hzk, hnl⟩ := hcond
   obtain ⟨i, hi, rfl⟩ := r_bytes hby
   have his : i.size = k := by simp only [sizeV, hi, Option.map_some, Option.some.injEq] at hk; exact hk
   have hzv : ∃ z, i.zero = some z ∧ ofValue z = some zz := by
    simp only [zeroV, hi, Option.bind_some, Option.bind_eq_some_iff] at hzz; exact hzz
   obtain ⟨z, hz, hzv⟩ := hzv
   have hzs : z.cells.size = i.size := by
    have := (zero_cells (ok := ok) (w := w) (B := B) hzv).length; simp at this; omega
   obtain ⟨l, hn, hrel⟩ := newsV_rel (P := P) hh hi hz his hnews hx
   have hll : l.length = n * k := by rw [← hrel.length, hnl]
   -- nothing appended: the slice as it was
   have same : n = 0 → ∀ base cap, s' = .slice base len cap → len ≤ cap → ∃ c w' B', (Builtin.append_ r ty #[s', x']).run P w = .ok c w' ∧ Ext ok B w ok B' w' ∧ HR ok w' B' p h ∧ VRel ok w' B' s c := by
    intro h0 base cap hs' hle
    subst hs' h0
    have hl0 : l = [] := List.eq_nil_of_length_eq_zero (by simpa using hll)
    subst hl0
    refine ⟨_, w, B, ?_, Ext.refl ok B w, hh, hs⟩
    rw [append_room ht hu hi hz hzs hn (by omega)]
    cases base <;> simp [storeCells]
   -- all in a new block
   have fresh : ∀ base cap (olds : List V), s' = .slice base len cap → cap < len + n → h.sliceCells s k len = some olds → v = .sref 0 h.top.length 0 (len + n) 0 (k, false) → h' = (newRow h (olds ++ news) k).2 →
     ∃ c w' B', (Builtin.append_ r ty #[s', x']).run P w = .ok c w' ∧ Ext ok B w ok B' w' ∧ HR ok w' B' p h' ∧ VRel ok w' B' v c := by
    intro base cap olds hs' hlt hol hv hh'
    subst hs' hv hh'
    obtain ⟨a, len', cap', l', he, g1, g2, g3, g4⟩ := slice_cells_rel hh hol hs
    simp only [Value.slice.injEq] at he
    obtain ⟨rfl, rfl, rfl⟩ := he
    have ho := firstCells_of (P := P) (len := len) (cap := cap) g1 g2 g3
    rw [← his] at ho
    exact append_new hh ht hu hi hz hzs hn hlt ho (by omega) hb46 his (g4.append hrel) (by rw [List.length_append, g4.length, g1, hnl, Nat.add_mul])
   split at hc
   ·-- nil
    simp only [VRel] at hs; subst hs
    simp only [lenV, Option.some.injEq] at hlen; subst hlen
    split at hc
    ·rename_i h0
     simp only [Option.some.injEq, Prod.mk.injEq] at hc
     obtain ⟨rfl, rfl⟩ := hc
     exact same h0 _ _ rfl (Nat.le_refl _)
    ·rename_i h0
     simp only [Option.some.injEq, Prod.mk.injEq] at hc
     obtain ⟨rfl, rfl⟩ := hc
     exact fresh none 0 [] rfl (by omega) (by simp [Heap.sliceCells]) (by simp) (by simp)
   ·-- a slice of a block
    rename_i d j off len0 ep q
    simp only [lenV, Option.some.injEq] at hlen; subst hlen
    obtain ⟨base, cap, hs', hle, hbn⟩ := VRel.sshape hs
    split at hc
    ·rename_i hq
     split at hc
     ·rename_i h0
      simp only [Option.some.injEq, Prod.mk.injEq] at hc
      obtain ⟨rfl, rfl⟩ := hc
      exact same h0 _ _ hs' hle
     ·rename_i h0
      simp only [Option.bind_eq_some_iff, Option.some.injEq, Prod.mk.injEq] at hc
      obtain ⟨olds, hol, rfl, rfl⟩ := hc
      have hcap : cap = len0 := by
       have hol' := hol
       simp only [Heap.sliceCells] at hol'
       split at hol'
       ·rename_i cells ep' esz flat plain hg
        split at hol'
        ·rename_i hcc
         have hno : B d j ≠ .out := by intro hE; simp only [VRel, hE] at hs
         obtain ⟨b', hE, _⟩ := hh.row hg hno
         have hs2 := hs
         simp only [VRel, hE] at hs2
         rcases hs2 with ⟨hlt, _⟩ | ⟨_, ⟨b0, cap', o, _, hv, _, e2, _⟩ | ⟨_, _, h0', _, hv⟩⟩
         ·omega
         ·rw [hs'] at hv
          simp only [Value.slice.injEq] at hv
          rw [hv.2.2]; exact e2 hq
         ·rw [hs'] at hv
          simp only [Value.slice.injEq] at hv
          omega
        ·cases hol'
       ·cases hol'
      exact fresh base cap olds hs' (by omega) hol rfl rfl
    ·rename_i hq
     split at hc
     ·rename_i h0
      simp only [Option.some.injEq, Prod.mk.injEq] at hc
      obtain ⟨rfl, rfl⟩ := hc
      exact same h0 _ _ hs' hle
     rename_i hnz
     split at hc
     ·rename_i cells ep' esz flat plain hg
      split at hc
      ·rename_i hcc
       obtain ⟨rfl, rfl, hqk, hfit, hokn, hez⟩ := hcc
       simp only [Option.bind_eq_some_iff, Option.some.injEq, Prod.mk.injEq] at hc
       obtain ⟨news', hd, rfl, rfl⟩ := hc
       have hno : B d j ≠ .out := by intro hE; simp only [VRel, hE] at hs
       obtain ⟨b', hE, hf, hp, hr⟩ := hh.row hg hno
       have hrel' := downIf hd hrel
       have hlen' : news'.length = n * k := by rw [hrel'.length, ← hrel.length, hnl]
       have hf2 : (flat && V.flatL news') = true → V.flatL (cells.take (len0 * k) ++ news') = true := fun h => by
        simp only [Bool.and_eq_true] at h; exact flatL_append (flatL_take _ (hf h.1)) h.2
       have hp2 : (plain && V.plainL news') = true → V.plainL (cells.take (len0 * k) ++ news') = true := fun h => by
        simp only [Bool.and_eq_true] at h; exact plainL_append (plainL_take _ (hp h.1)) h.2
       have hs2 := hs
       simp only [VRel, hE] at hs2
       rcases hs2 with ⟨hlt, _⟩ | ⟨_, ⟨b0, cap', o, rfl, hv, e1, e2, e3, e4⟩ | ⟨rfl, _, h0', _, hv⟩⟩
       ·omega
       ·rw [hs'] at hv
        simp only [Value.slice.injEq] at hv
        obtain ⟨rfl, _, rfl⟩ := hv
        subst hs'
        by_cases hroom : len0 + n ≤ cap
        ·-- in place
         obtain ⟨cur, el, lo, hi', g1, g2, c1, c2, g3, g4⟩ := hr
         have hcl := g4.length
         have hsz : cur.size = c1.length + c2.length := by rw [← Array.length_toList, g3, List.length_append]
         have hcs : csize w b0 = cur.size := by simp [csize, g1]
         have hfit2 : cap * k ≤ cur.size := by have := e4 (by rw [hqk]; omega); rw [hqk, hcs] at this; omega
         have hmul : len0 * k + n * k ≤ cap * k := by rw [← Nat.add_mul]; exact Nat.mul_le_mul_right _ hroom
         have ho : 0 < cap ∨ (len0 = 0 ∧ n = 0) := by omega
         have hrun := append_room (P := P) (ty := ty) ht hu hi hz hzs hn (base := some ⟨b0, o, none⟩) (cap := cap) hroom
         rw [his] at hrun
         simp only [Addr.add_plain] at hrun
         rcases ho with hcpos | ⟨rfl, rfl⟩
         ·obtain rfl := e3 hcpos
          have hst := run_storeCells_fr (P := P) b0 (0 + len0 * k) el (lo, hi') l 0 cur w g1 g2 (by omega) hrel'.ones
          simp only [Nat.add_zero, Nat.zero_add] at hst hrun
          rw [hst] at hrun
          obtain ⟨hx1, hh1⟩ := set_row hh hE (Nat.le_succ ep) hg g1 (cs := (cur.toList.take (len0 * k) ++ l ++ cur.toList.drop (len0 * k + l.length)).toArray) (by simp; omega) (fun i hi => by
            have hio : i < len0 * k := Nat.lt_of_lt_of_le hi hez
            rw [← Array.getElem?_toList, ← Array.getElem?_toList (xs := cur)]
            simp only [List.append_assoc]
            rw [List.getElem?_append_left (by simp; omega), List.getElem?_take_of_lt hio]) g2
           (c1 := c1.take (len0 * k) ++ l) (c2 := cur.toList.drop (len0 * k + l.length))
           (by simp only [g3]; rw [List.take_append_of_le_length (by omega)]) (cells2 := cells.take (len0 * k) ++ news') ((g4.take _).append hrel') hf2 hp2
          refine ⟨_, _, _, hrun, hx1, hh1, ?_⟩
          simp only [VRel, Bd.put_same]
          refine .inr ⟨trivial, .inl ⟨b0, cap, 0, rfl, rfl, by omega, by simp, fun _ => rfl, fun _ => ?_⟩⟩
          rw [setRow_same g1 (by simp; omega), hcs]; simpa using hfit2
         ·-- nothing in nothing
          have hl0 : l = [] := List.eq_nil_of_length_eq_zero (by simpa using hll)
          subst hl0
          have hn0 : news' = [] := List.eq_nil_of_length_eq_zero (by simpa using hlen')
          subst hn0
          simp only [storeCells, Sem.run_pure, Result.andThen_ok, Nat.add_zero] at hrun
          obtain ⟨hx1, hh1⟩ := set_row hh hE (Nat.le_succ ep) hg g1 (cs := cur) rfl (fun _ _ => rfl) g2 (c1 := []) (c2 := cur.toList) rfl (cells2 := cells.take (0 * k) ++ []) (by simp [ORelL]) hf2 hp2
          rw [setRow_self w b0 cur el (lo, hi') g1] at hx1 hh1
          refine ⟨_, _, _, hrun, hx1, hh1, ?_⟩
          simp only [VRel, Bd.put_same]
          refine .inr ⟨trivial, .inl ⟨b0, cap, o, rfl, rfl, by omega, by simp, e3, fun _ => ?_⟩⟩
          rw [hcs]; simpa using hfit2
        ·-- a new block
         have hol : h.sliceCells (.sref d j 0 len0 ep q) k len0 = some (V.upIf flat d ((cells.drop 0).take (len0 * k))) := by
          simp only [Heap.sliceCells, hg]
          rw [if_pos ⟨trivial, Nat.le_refl _, by omega⟩]
         obtain ⟨a, len', cap', l', he, g1, g2, g3, g4⟩ := slice_cells_rel hh hol hs
         simp only [Value.slice.injEq] at he
         obtain ⟨rfl, rfl, rfl⟩ := he
         have ho := firstCells_of (P := P) (len := len0) (cap := cap) g1 g2 g3
         rw [← his] at ho
         have hrun := append_grow (ty := ty) ht hu hi hz hzs hn (by omega) (ho w.drew (fun _ => rfl)) (by omega) hb46
         obtain ⟨l2, e5, e6⟩ := RowR.cell hr
         have hl' : l' = l2.take (len0 * k) := by
          apply List.ext_getElem?
          intro jj
          have hl2 := e5.length
          rw [List.getElem?_take]
          split
          ·rename_i hjj
           have h1 : ∃ c, l2[jj]? = some c := ⟨l2[jj]'(by omega), List.getElem?_eq_getElem (by omega)⟩
           obtain ⟨c, hc⟩ := h1
           have h2 : ∃ c, l'[jj]? = some c := ⟨l'[jj]'(by omega), List.getElem?_eq_getElem (by omega)⟩
           obtain ⟨c', hc'⟩ := h2
           have h3 := e6 jj c hc
           have h4 := g3 _ rfl jj c' hc'
           rw [Addr.add_plain] at h4
           have : 0 < cap := by
            rcases Nat.eq_zero_or_pos len0 with rfl | hp
            ·simp at hjj
            ·omega
           obtain rfl := e3 this
           simp only [Nat.zero_add] at h4
           rw [h3] at h4
           rw [hc, hc', h4]
          ·rw [List.getElem?_eq_none (by omega)]
         have hr2 : ORelL ok w (B.from_ d) (cells.take (len0 * k) ++ news') (l' ++ l) := by rw [hl']; exact (e5.take _).append hrel'
         have hx0 := Ext.drew ok B w
         obtain ⟨hx1, hh1⟩ := regrow_row hh.drew hE hg (l'.toArray ++ l.toArray ++ Builtin.zeroCells z.cells (grownCap w (len0 + n) cap elem - (len0 + n))) elem
          (c1 := l' ++ l) (c2 := (Builtin.zeroCells z.cells (grownCap w (len0 + n) cap elem - (len0 + n))).toList) (by simp) (hx0.orelL_from hh d hr2) hf2 hp2
         refine ⟨_, _, _, hrun, hx0.trans hx1, hh1, ?_⟩
         simp only [VRel, Bd.put_same]
         have hge := grownCap_ge w (len0 + n) cap elem
         refine .inr ⟨trivial, .inl ⟨_, _, 0, rfl, rfl, hge, by simp, fun _ => rfl, fun _ => ?_⟩⟩
         rw [csize_new]
         simp only [Array.size_append, List.size_toArray, size_zeroCells, hzs, his, Nat.zero_add]
         rw [g1, hll, ← Nat.add_mul, ← Nat.add_mul]
         exact Nat.mul_le_mul_right _ (by omega)
       ·-- the row of a nil slice
        subst h0'
        subst hv
        simp only [RowR] at hr
        subst hr
        simp only [Value.slice.injEq] at hs'
        obtain ⟨rfl, _, rfl⟩ := hs'
        by_cases hn0 : n = 0
        ·exact absurd hn0 hnz
        ·have hrun := append_grow (P := P) (ty := ty) ht hu hi hz hzs hn (base := none) (len := 0) (cap := 0) (olds := []) (by omega) (run_firstCells_none w.drew _ 0 _ _) (by omega) hb46
         have hx0 := Ext.drew ok B w
         obtain ⟨hx1, hh1⟩ := regrow_row hh.drew hE hg (([] : List Value).toArray ++ l.toArray ++ Builtin.zeroCells z.cells (grownCap w (0 + n) 0 elem - (0 + n))) elem
          (c1 := l) (c2 := (Builtin.zeroCells z.cells (grownCap w (0 + n) 0 elem - (0 + n))).toList) (by simp) (cells2 := ([] : List V).take (0 * k) ++ news') (by simpa using hx0.orelL_from hh d hrel') hf2 hp2
         refine ⟨_, _, _, hrun, hx0.trans hx1, hh1, ?_⟩
         simp only [VRel, Bd.put_same]
         have hge := grownCap_ge w (0 + n) 0 elem
         refine .inr ⟨trivial, .inl ⟨_, _, 0, rfl, rfl, hge, by simp, fun _ => rfl, fun _ => ?_⟩⟩
         rw [csize_new]
         simp only [Array.size_append, List.size_toArray, size_zeroCells, hzs, his, Nat.zero_add, List.length_nil]
         rw [hll, ← Nat.add_mul]
         exact Nat.mul_le_mul_right _ (by omega)
      ·cases hc
     ·cases hc
   ·-- a content
    rename_i cells off len0 full
    simp only [lenV, Option.some.injEq] at hlen; subst hlen
    split at hc
    ·rename_i hq
     have hs2 := hs
     simp only [VRel] at hs2
     split at hc
     ·rename_i h0
      simp only [Option.some.injEq, Prod.mk.injEq] at hc
      obtain ⟨rfl, rfl⟩ := hc
      rcases hs2 with ⟨b, base, cap, o, hv, e1, _⟩ | ⟨rfl, hv⟩
      ·exact same h0 _ _ hv e1
      ·exact same h0 _ _ hv (Nat.le_refl _)
     ·rename_i h0
      simp only [Option.bind_eq_some_iff, Option.some.injEq, Prod.mk.injEq] at hc
      obtain ⟨olds, hol, rfl, rfl⟩ := hc
      rcases hs2 with ⟨b, base, cap, o, hv, e1, e2, _⟩ | ⟨rfl, hv⟩
      ·exact fresh _ _ olds hv (by rw [e2 hq]; omega) hol rfl rfl
      ·exact fresh _ _ olds hv (by omega) hol rfl rfl
    ·cases hc
   ·cases hc
 ·cases hc
end
end Go.Sim
end
section
namespace Go.Sim
open Go
section
variable {E : Env} {P : Program} {w : World} {ok : Nat → Nat → Prop} {B : Bd} {p : Array Oper → Bool} {h : Heap}
theorem freeze_alloc (cs : Array Value) (el : TypeId) (o : Nat) : (w.alloc (.cells cs el)).freeze ⟨w.heap.size, o, none⟩ 1 = w.alloc (.cells cs el (o, o + 1)) := by
 unfold World.freeze World.alloc
 simp only [Nat.one_ne_zero, if_false]
 congr 1
 apply Array.ext
 ·simp
 ·intro i h1 h2
  simp only [Array.getElem_modify, Array.getElem_push]
  split
  ·rename_i h; subst h; simp
  ·split
   ·rfl
   ·simp at h1; omega
theorem strBytes_rel (e : TypeId) (s : List UInt8) : AllocAt ok B p P w (Conv.stringToBytes e ⟨s.toArray⟩) (fun j => .sref 0 j 0 s.length 0 (1, false)) (rowOf (s.map u8) 1) := by
 intro H j hh hout hg
 have hge := grownCap_ge w s.length 0 e
 obtain ⟨hx, hh'⟩ := new_at hh.drew hout (cs := (s.map fun b => Value.int .u8 b.toNat).toArray ++ Array.replicate (grownCap w s.length 0 e - s.length) (.int .u8 0)) e 1
  (s.length + (grownCap w s.length 0 e - s.length), s.length + (grownCap w s.length 0 e - s.length) + 1) (by simp) hg
  (c1 := s.map fun b => Value.int .u8 b.toNat) (c2 := List.replicate (grownCap w s.length 0 e - s.length) (.int .u8 0)) (by simp) ((Ext.drew ok B w).orelL hh (str_cells s))
 refine ⟨_, _, _, ?_, (Ext.drew ok B w).trans hx, hh', new_sref (cap := grownCap w s.length 0 e) hge (by simp) (by rw [csize_new]; simp; omega), fun d' j' hq => Bd.put_other B _ hq⟩
 have hsz : (ByteArray.mk s.toArray).size = s.length := by simp [ByteArray.size]
 have hshape : ∀ cs : Array Value, (w.drew.alloc (.cells cs e)).shape? w.heap.size = some (e, cs.size) := fun cs => by
  unfold World.shape?
  rw [show w.heap.size = w.drew.heap.size from rfl, heap_push_new]
 simp [Conv.stringToBytes, hsz, Question.forced, Go.newRow, markStringish, hshape]
 refine ⟨rfl, ?_⟩
 have := freeze_alloc (w := w.drew) ((s.map fun b => Value.int .u8 b.toNat).toArray ++ Array.replicate (grownCap w s.length 0 e - s.length) (.int .u8 0)) e (s.length + (grownCap w s.length 0 e - s.length))
 rw [← this]
 simp [grownCap]
theorem bytes_list : ∀ (cs : List V) (l : List Value), cs.all isByte = true → ORelL ok w B cs l → ∃ ns : List Int, l = ns.map (Value.int .u8) ∧ cs.map byteOf = ns.map fun n => UInt8.ofNat n.toNat
 | [], l, _, h => by simp only [ORelL] at h; subst h; exact ⟨[], rfl, rfl⟩
 | v :: r, l, h1, h => by
  simp only [List.all_cons, Bool.and_eq_true] at h1
  simp only [ORelL] at h
  obtain ⟨c, l', rfl, _, hv, hr⟩ := h
  obtain ⟨ns, rfl, e2⟩ := bytes_list r l' h1.2 hr
  have h11 := h1.1
  unfold isByte at h11
  split at h11
  ·rename_i n
   simp only [VRel] at hv; subst hv
   exact ⟨n :: ns, rfl, by simp [byteOf, e2]⟩
  ·cases h11
theorem push_list : ∀ (ns : List Int) (s : ByteArray), (ns.foldl (fun r n => r.push (UInt8.ofNat n.toNat)) s).data.toList = s.data.toList ++ ns.map fun n => UInt8.ofNat n.toNat
 | [], s => by simp
 | n :: r, s => by rw [List.foldl_cons, push_list r]; simp [ByteArray.push]
theorem bytesStr_rel (hh : HR ok w B p h) {x : V} {x' : Value} {n : Nat} {cs : List V} (hc : h.sliceCells x 1 n = some cs) (hn : lenV x = some n) (hns : ∀ s, x ≠ .str s) (hb : cs.all isByte = true) (hx : VRel ok w B x x') :
  (Conv.bytesToString x').run P w = .ok (.string ⟨(cs.map byteOf).toArray⟩) w ∧ ∃ b l c, x' = .slice b l c := by
 obtain ⟨b, cap, rfl, g1, g2⟩ := slice_len hn hx hns
 obtain ⟨a, len, cap', l', he, e1, e2, e3, e4⟩ := slice_cells_rel hh hc hx
 simp only [Value.slice.injEq] at he
 obtain ⟨rfl, rfl, rfl⟩ := he
 obtain ⟨ns, rfl, hns⟩ := bytes_list cs l' hb e4
 refine ⟨?_, _, _, _, rfl⟩
 cases b with
 | none =>
  obtain rfl := e2 rfl
  simp at e1
  subst e1
  simp only [List.map_nil, List.map_eq_nil_iff] at hns
  subst hns
  simp [Conv.bytesToString]; rfl
 | some a =>
  have hl := run_loadCells_list (P := P) w a _ (e3 a rfl)
  rw [e1, Nat.mul_one] at hl
  rw [run_bytesToString w a n cap ns hl, hns]
  congr 2
  apply ByteArray.ext
  apply Array.ext'
  rw [push_list]
  simp
theorem freeze_cells {b o : Nat} {cs : Array Value} {el : TypeId} {lo hi : Nat} (hg : w.heap[b]? = some (.cells cs el (lo, hi))) :
  (w.freeze ⟨b, o, none⟩ 1).heap[b]? = some (.cells cs el (if lo == hi then (o, o + 1) else (min lo o, max hi (o + 1)))) := by
 have hlt : b < w.heap.size := (Array.getElem?_eq_some_iff.1 hg).1
 have hv : w.heap[b] = .cells cs el (lo, hi) := (Array.getElem?_eq_some_iff.1 hg).2
 unfold World.freeze
 simp only [Nat.one_ne_zero, if_false]
 rw [Array.getElem?_eq_getElem (by simpa using hlt), Array.getElem_modify]
 simp [hv]
theorem freeze_other {b o k : Nat} (hk : k ≠ b) : (w.freeze ⟨b, o, none⟩ 1).heap[k]? = w.heap[k]? := by
 unfold World.freeze
 simp [Array.getElem?_modify, Ne.symm hk]
theorem freeze_size {b o : Nat} : (w.freeze ⟨b, o, none⟩ 1).heap.size = w.heap.size := by
 unfold World.freeze; simp
theorem mark_row (hh : HR ok w B p h) {d j b ep esz : Nat} (hE : B d j = .row (some b) ep esz) {cells : List V} {flat plain : Bool} (hg : h.get d j = some (.row cells ep esz flat plain)) (o : Nat) :
  ∃ w', (markStringish ⟨b, o, none⟩).run P w = .ok () w' ∧ Ext ok B w ok (B.put d j (.row (some b) ep esz)) w' ∧ HR ok w' (B.put d j (.row (some b) ep esz)) p (h.set d j (.row cells ep esz flat plain)) := by
 obtain ⟨b', hE', hf, hp, hr⟩ := hh.row hg (by rw [hE]; simp)
 rw [hE] at hE'
 simp only [Ent.row.injEq, and_true] at hE'
 subst hE'
 obtain ⟨cur, el, lo, hi, g1, g2, c1, c2, g3, g4⟩ := hr
 have hsh : w.shape? b = some (el, cur.size) := by simp [World.shape?, g1]
 have hbk : (B d j).blk = some b := by rw [hE]; rfl
 have hcs : ∀ k, csize (w.freeze ⟨b, cur.size, none⟩ 1) k = csize w k := fun k => by
  unfold csize
  by_cases hk : k = b
  ·subst hk; rw [freeze_cells g1, g1]
  ·rw [freeze_other hk]
 refine ⟨w.freeze ⟨b, cur.size, none⟩ 1, by simp [markStringish, hsh], ?_⟩
 have hx : Ext ok B w ok (B.put d j (.row (some b) ep esz)) (w.freeze ⟨b, cur.size, none⟩ 1) := by
  refine ⟨by rw [freeze_size]; exact Nat.le_refl _, rfl, rfl, rfl, fun k hk hu => freeze_other (fun e => hu d j (by rw [hbk, e])), OkLe.row hh (b1 := b) (fun n hn i hi => by simp only [World.cell?, freeze_cells g1, g1]) (fun k hk hne => freeze_other hne), fun _ _ _ h => .inl h, fun d' j' => ?_, fun d' j' k hk _ => ?_⟩
  ·by_cases hq : d' = d ∧ j' = j
   ·obtain ⟨rfl, rfl⟩ := hq
    rw [Bd.put_same, hE]
    exact .inr ⟨_, _, _, rfl, .inr ⟨rfl, rfl, fun b0 _ => by rw [hcs]; exact Nat.le_refl _⟩⟩
   ·rw [Bd.put_other B _ hq]
    exact EntLe.refl _ fun k _ => by rw [hcs]; exact Nat.le_refl _
  ·by_cases hq : d' = d ∧ j' = j
   ·obtain ⟨rfl, rfl⟩ := hq; rw [Bd.put_same] at hk; rw [hbk]; exact hk
   ·rw [Bd.put_other B _ hq] at hk; exact hk
 refine ⟨hx, HR.put hx hh (by rw [Heap.length_set]; exact hh.pos) ?_ ?_ ?_ ?_⟩
 ·intro d' j' k hne hk
  refine freeze_other fun e => hne ?_
  subst e
  exact hh.inj d' j' d j k hk hbk
 ·intro d' j' hne _
  rw [Heap.get_set hg, if_neg hne]
 ·intro k hk
  simp only [Ent.blk, Option.some.injEq] at hk; subst hk
  refine ⟨by rw [freeze_size]; exact hh.lt d j b hbk, fun n hok => by have := hh.frozen hbk hok; rw [hE] at this; exact this, fun d' j' hne hk => hne (hh.inj d' j' d j b hk hbk)⟩
 ·rw [Heap.get_set hg, if_pos ⟨rfl, rfl⟩]
  refine ⟨cells, flat, plain, rfl, hf, hp, cur, el, (if lo == hi then (cur.size, cur.size + 1) else (min lo cur.size, max hi (cur.size + 1))).1, (if lo == hi then (cur.size, cur.size + 1) else (min lo cur.size, max hi (cur.size + 1))).2, freeze_cells g1, ?_, c1, c2, g3, hx.orelL_from hh d g4⟩
  by_cases hlh : lo = hi
  ·simp [hlh]
  ·have : cur.size ≤ lo := by rcases g2 with g | g; exact absurd g hlh; exact g
   simp [hlh]; omega
theorem convert_rel (hh : HR ok w B p h) {src dst : TypeId} {x v : V} {x' : Value} {h' : Heap} (hc : convertV P h src dst x = some (v, h')) (hx : VRel ok w B x x') :
  ∃ c w' B', (convert src dst x').run P w = .ok c w' ∧ Ext ok B w ok B' w' ∧ HR ok w' B' p h' ∧ VRel ok w' B' v c := by
 unfold convertV at hc
 split at hc
 ·rename_i d k kk n hs hd
  simp only [VRel] at hx; subst hx
  simp only [Option.some.injEq, Prod.mk.injEq] at hc
  obtain ⟨rfl, rfl⟩ := hc
  exact ⟨_, w, B, by simp [convert, r_under hs, r_under hd, Conv.intToInt]; rfl, Ext.refl ok B w, hh, by simp [VRel]⟩
 ·rename_i d s hs hd
  simp only [VRel] at hx; subst hx
  simp only [Option.some.injEq, Prod.mk.injEq] at hc
  obtain ⟨rfl, rfl⟩ := hc
  exact ⟨_, w, B, by simp [convert, r_under hs, r_under hd]; rfl, Ext.refl ok B w, hh, by simp [VRel]⟩
 ·rename_i d e s hs hd
  simp only [VRel] at hx; subst hx
  split at hc
  ·rename_i he
   simp only [Option.some.injEq, Prod.mk.injEq] at hc
   obtain ⟨rfl, rfl⟩ := hc
   obtain ⟨c, w', B', hrun, g1, g2, g3⟩ := (strBytes_rel (P := P) (ok := ok) (B := B) (p := p) (w := w) e s).push hh
   exact ⟨c, w', B', by simp [convert, r_under hs, r_under hd, r_under he, hrun], g1, g2, g3⟩
  ·cases hc
 ·rename_i e0 e d j o l ep f hs hd
  split at hc
  ·rename_i cells ep' esz fl pl he hg
   split at hc
   ·rename_i hcond
    obtain ⟨rfl, rfl, hl⟩ := hcond
    simp only [Option.some.injEq, Prod.mk.injEq] at hc
    obtain ⟨rfl, rfl⟩ := hc
    have hno : B d j ≠ .out := by intro hE; simp only [VRel, hE] at hx
    obtain ⟨b', hE, hf, hp, hr⟩ := hh.row hg hno
    have hx2 := hx
    simp only [VRel, hE] at hx2
    rcases hx2 with ⟨hlt, _⟩ | ⟨_, ⟨b0, cap', o', rfl, hv, _⟩ | ⟨_, _, h0', _, hv⟩⟩
    ·omega
    ·obtain ⟨w', hrun, g1, g2⟩ := mark_row (P := P) hh hE hg o'
     subst hv
     refine ⟨_, w', _, ?_, g1, g2, g1.vrel hh hx⟩
     rw [hs] at hd; cases hd
     simp [convert, r_under hs, r_under he, hrun]
    ·omega
   ·cases hc
  ·cases hc
 ·rename_i x d1 d2 x1 e hs hd hnot
  split at hc
  ·rename_i he
   simp only [Option.bind_eq_some_iff] at hc
   obtain ⟨n, hn, cs, hcs, hc⟩ := hc
   split at hc
   ·rename_i hb
    simp only [Option.some.injEq, Prod.mk.injEq] at hc
    obtain ⟨rfl, rfl⟩ := hc
    have hns : ∀ s, x ≠ .str s := fun s e => hnot s e
    obtain ⟨hrun, b, l, c, rfl⟩ := bytesStr_rel (P := P) hh hcs hn hns hb hx
    refine ⟨.string ⟨(cs.map byteOf).toArray⟩, w, B, ?_, Ext.refl ok B w, hh, by simp [VRel]⟩
    cases b <;> simp [convert, r_under hs, r_under hd, r_under he, hrun]
   ·cases hc
  ·cases hc
 ·cases hc
end
end Go.Sim
end
section
namespace Go.Sim
open Go
open Go.MapKept
section
variable {ok ok2 : Nat → Nat → Prop} {w w2 : World} {B B2 : Bd}
mutual
theorem VRel.plain : ∀ (v : V) (c : Value), V.plain v = true → VRel ok w B v c → VRel ok2 w2 B2 v c
 | .bool _, _, _, h | .int _ _, _, _, h | .float _ _, _, _, h | .str _, _, _, h | .nilptr, _, _, h | .nilslice, _, _, h | .nilfunc, _, _, h
 | .niliface, _, _, h | .nilmap, _, _, h => h
 | .poison, _, f, _ | .pref _ _ _ _, _, f, _ | .sref _ _ _ _ _ _, _, f, _ | .mref _ _, _, f, _ | .yield _ _, _, f, _ | .pcon _ _, _, f, _ | .scon _ _ _ _, _, f, _ => by simp [V.plain] at f
 | .func fn a b, c, f, h => by
  simp only [V.plain, Bool.and_eq_true] at f
  simp only [VRel] at h ⊢
  obtain ⟨a', b', hc, ha, hb⟩ := h
  exact ⟨a', b', hc, VRelL.plain a a' f.1 ha, VRelL.plain b b' f.2 hb⟩
 | .iface t x, c, f, h => by
  simp only [V.plain] at f
  simp only [VRel] at h ⊢
  obtain ⟨x', hc, hx⟩ := h
  exact ⟨x', hc, VRel.plain x x' f hx⟩
 | .agg cs, c, f, h => by
  simp only [V.plain] at f
  simp only [VRel] at h ⊢
  obtain ⟨cs', hc, hx⟩ := h
  exact ⟨cs', hc, ORelL.plain cs cs' f hx⟩
 | .tuple cs, c, f, h => by
  simp only [V.plain] at f
  simp only [VRel] at h ⊢
  obtain ⟨cs', hc, hx⟩ := h
  exact ⟨cs', hc, VRelL.plain cs cs' f hx⟩
theorem VRelL.plain : ∀ (l : List V) (l' : List Value), V.plainL l = true → VRelL ok w B l l' → VRelL ok2 w2 B2 l l'
 | [], l', _, h => by simp only [VRelL] at h ⊢; exact h
 | v :: r, l', f, h => by
  simp only [V.plainL, Bool.and_eq_true] at f
  simp only [VRelL] at h ⊢
  obtain ⟨c, r', rfl, hv, hr⟩ := h
  exact ⟨c, r', rfl, VRel.plain v c f.1 hv, VRelL.plain r r' f.2 hr⟩
theorem ORelL.plain : ∀ (l : List V) (l' : List Value), V.plainL l = true → ORelL ok w B l l' → ORelL ok2 w2 B2 l l'
 | [], l', _, h => by simp only [ORelL] at h ⊢; exact h
 | v :: r, l', f, h => by
  simp only [V.plainL, Bool.and_eq_true] at f
  simp only [ORelL] at h ⊢
  obtain ⟨c, r', rfl, h1, hv, hr⟩ := h
  exact ⟨c, r', rfl, h1, VRel.plain v c f.1 hv, ORelL.plain r r' f.2 hr⟩
end
end
section
variable {E : Env} {P : Program} {w : World} {ok : Nat → Nat → Prop} {B : Bd} {p : Array Oper → Bool} {h : Heap}
theorem HR.map (hh : HR ok w B p h) {d j : Nat} {es : List (V × V)} (hg : h.get d j = some (.mp es)) (hn : B d j ≠ .out) :
  ∃ b entries clock, B d j = .mp b ∧ w.heap[b]? = some (.map entries clock) ∧ clock = es.length ∧ MapR 0 es entries.toList := by
 have hb := hh.blk d j
 rw [hg] at hb
 cases hE : B d j with
 | out => exact absurd hE hn
 | dead => rw [hE] at hb; simp [BlkR] at hb
 | loop l => rw [hE] at hb; simp [BlkR] at hb
 | row b ep esz => rw [hE] at hb; simp [BlkR] at hb
 | it l => rw [hE] at hb; simp [BlkR] at hb
 | mp b =>
  rw [hE] at hb
  obtain ⟨es', h1, en, cl, h2, h3⟩ := hb
  simp only [Option.some.injEq, Blk.mp.injEq] at h1
  subst h1
  exact ⟨b, en, cl, rfl, h2, h3⟩
theorem MapR.int_key {k : V} {e : MapEntry} {kk : IntKind} {m : Int} (hk : k = .int kk m) (h : ∀ ok w B, VRel ok w B k e.key) : e.key = .int kk m := by
 subst hk
 have := h (fun _ _ => True) default Bd.none_
 simpa only [VRel] using this
theorem mapGet_rel {k kd : IntKind} {n : Int} : ∀ {es : List (V × V)} {l : List MapEntry} {r : Option V} (q i : Nat), mapGet k n es = some r → MapR q es l →
  ∃ a, Instr.findNow (.int kd) (.int k n) l i = some a ∧ ((r = none ∧ a = none) ∨ ∃ v j c, r = some v ∧ a = some (j, c) ∧ ∀ ok w B, VRel ok w B v c)
 | [], l, r, q, i, hg, hm => by
  simp only [mapGet, Option.some.injEq] at hg
  simp only [MapR] at hm
  subst hg hm
  exact ⟨none, rfl, .inl ⟨rfl, rfl⟩⟩
 | (key, v) :: es, l, r, q, i, hg, hm => by
  obtain ⟨e, l', rfl, _, _, h1, h2, h3⟩ := hm
  cases key with
  | int k' m =>
   have he := MapR.int_key rfl h1
   simp only [mapGet] at hg
   split at hg
   ·rename_i hk
    subst hk
    split at hg
    ·rename_i hn
     subst hn
     simp only [Option.some.injEq] at hg
     subst hg
     exact ⟨some (i, e.val), by simp [Instr.findNow, he, Instr.sameNow], .inr ⟨v, i, e.val, rfl, rfl, h2⟩⟩
    ·rename_i hn
     obtain ⟨a, ha, hr⟩ := mapGet_rel (kd := kd) (q + 1) (i + 1) hg h3
     refine ⟨a, ?_, hr⟩
     have hb : (n == m) = false := by simpa using hn
     simp [Instr.findNow, he, Instr.sameNow, hb, ha]
   ·cases hg
  | _ => simp [mapGet] at hg
theorem mref_map {d j : Nat} {c : Value} (hh : HR ok w B p h) {es : List (V × V)} (hg : h.get d j = some (.mp es)) (hr : VRel ok w B (.mref d j) c) :
  ∃ b entries clock, B d j = .mp b ∧ c = .map (some b) ∧ w.heap[b]? = some (.map entries clock) ∧ clock = es.length ∧ MapR 0 es entries.toList := by
 have hn : B d j ≠ .out := by intro hE; simp only [VRel, hE] at hr
 obtain ⟨b, en, cl, hE, hb, hm⟩ := hh.map hg hn
 simp only [VRel, hE] at hr
 exact ⟨b, en, cl, hE, hr, hb, hm⟩
theorem lookup_rel {t : TypeId} {m ix v : V} {c i : Value} {ck : Bool} (hl : lookupV P h t m ix ck = some v) (hh : HR ok w B p h) (hm : VRel ok w B m c) (hi : VRel ok w B ix i) :
  ∃ x, (Instr.lookup t c i ck).run P w = .ok x w ∧ VRel ok w B v x := by
 unfold lookupV at hl
 split at hl
 ·rename_i key elem d j k n hu
  split at hl
  ·rename_i kd es hk hg
   split at hl
   case isFalse => cases hl
   rename_i hkk
   subst hkk
   simp only [Option.bind_eq_some_iff, Option.some.injEq] at hl
   obtain ⟨z, hz, r, hr, hl⟩ := hl
   obtain ⟨b, en, cl, hE, rfl, hb, hcl, hmr⟩ := mref_map hh hg hm
   simp only [VRel] at hi
   subst hi
   obtain ⟨zv, hzr, hzo⟩ := r_zero (w := w) hz
   have hzv : VRel ok w B z zv := ofValue_rel hzo
   obtain ⟨a, ha, hcase⟩ := mapGet_rel (kd := k) 0 0 hr hmr
   have hkey : IsKey (.int k) (.int k n) := by simp [IsKey]
   have hrun : (Instr.lookup t (.map (some b)) (.int k n) ck).run P w = .ok (if ck then .tuple #[(match a with | some (_, v) => v | none => zv), .bool a.isSome] else (match a with | some (_, v) => v | none => zv)) w := by
    simp only [Instr.lookup, Sem.run_bind, r_under hu, Result.andThen, run_getObj_map hb, run_checkKey hk hkey, run_findKey hk ha, Sem.run_pure, MapKept.run_getObj_map]
    cases a with
    | none => cases ck <;> simp [hzr, Result.andThen]
    | some q => cases ck <;> simp [Result.andThen]
   refine ⟨_, hrun, ?_⟩
   subst hl
   rcases hcase with ⟨rfl, rfl⟩ | ⟨v', j', c', rfl, rfl, hv⟩
   ·cases ck with
    | true => simp only [if_true, VRel, Option.getD_none, Option.isSome_none]; exact ⟨[zv, .bool false], rfl, by simp only [VRelL, VRel]; exact ⟨_, _, rfl, hzv, _, _, rfl, rfl, rfl⟩⟩
    | false => simpa using hzv
   ·cases ck with
    | true => simp only [if_true, VRel, Option.getD_some, Option.isSome_some]; exact ⟨[c', .bool true], rfl, by simp only [VRelL, VRel]; exact ⟨_, _, rfl, hv ok w B, _, _, rfl, rfl, rfl⟩⟩
    | false => simpa using hv ok w B
  ·cases hl
 ·cases hl
theorem makeMap_rel {t : TypeId} {r : Option Operand} {ρ' : Operand → Value} {v : V} {h' : Heap} (hm : makeMapV h r = some (v, h')) (hh : HR ok w B p h) :
  ∃ c w' B', (Instr.makeMap t (r.map ρ')).run P w = .ok c w' ∧ Ext ok B w ok B' w' ∧ HR ok w' B' p h' ∧ VRel ok w' B' v c := by
 cases r with
 | some _ => simp [makeMapV] at hm
 | none =>
  simp only [makeMapV, Option.some.injEq, Prod.mk.injEq] at hm
  obtain ⟨rfl, rfl⟩ := hm
  obtain ⟨hx, hr⟩ := push_blk hh (.mp []) (.mp w.heap.size) (.map #[] 0) (fun b hb => by simp only [Ent.blk, Option.some.injEq] at hb; exact hb.symm)
   ⟨[], rfl, #[], 0, heap_push_new w _, rfl, by simp [MapR]⟩
  exact ⟨.map (some w.heap.size), _, _, by simp [Instr.makeMap], hx, hr, by simp only [VRel, Bd.put_same]⟩
theorem mapPut_find {k kd : IntKind} {n : Int} {x : V} {x' : Value} (hkd : kd = kd) (hxp : V.plain x = true) (hx : ∀ ok w B, VRel ok w B x x') : ∀ {es es' : List (V × V)} {l : List MapEntry} (g i : Nat), mapPut k n x es = some es' → MapR g es l →
  (Instr.findNow (.int kd) (.int k n) l i = some none ∧ es'.length = es.length + 1 ∧ MapR g es' (l ++ [{ key := .int k n, val := x', born := g + es.length }])) ∨
  ∃ j e, Instr.findNow (.int kd) (.int k n) l i = some (some (i + j, e.val)) ∧ l[j]? = some e ∧ e.key = .int k n ∧ es'.length = es.length ∧ MapR g es' (l.set j { e with key := .int k n, val := x' })
 | [], es', l, g, i, hp, hm => by
  simp only [mapPut, Option.some.injEq] at hp
  simp only [MapR] at hm
  subst hp hm
  refine .inl ⟨rfl, rfl, ?_⟩
  simp only [List.nil_append, MapR]
  exact ⟨_, _, rfl, ⟨by simp [V.plain], rfl⟩, hxp, fun ok w B => by simp only [VRel], hx, rfl⟩
 | (key, v) :: es, es', l, g, i, hp, hm => by
  obtain ⟨e, l', rfl, p1, p2, h1, h2, h3⟩ := hm
  cases key with
  | int k' m =>
   have he := MapR.int_key rfl h1
   simp only [mapPut] at hp
   split at hp
   ·rename_i hk
    subst hk
    split at hp
    ·rename_i hn
     subst hn
     simp only [Option.some.injEq] at hp
     subst hp
     refine .inr ⟨0, e, by simp [Instr.findNow, he, Instr.sameNow], rfl, he, rfl, ?_⟩
     simp only [List.set_cons_zero, MapR]
     exact ⟨_, _, rfl, ⟨by simp [V.plain], p1.2⟩, hxp, fun ok w B => by simp only [VRel], hx, h3⟩
    ·rename_i hn
     simp only [Option.map_eq_some_iff] at hp
     obtain ⟨es2, hp, rfl⟩ := hp
     have hb : (n == m) = false := by simpa using hn
     rcases mapPut_find (kd := kd) rfl hxp hx (g + 1) (i + 1) hp h3 with ⟨ha, hlen, hr⟩ | ⟨j, e', ha, hj, hk', hlen, hr⟩
     ·refine .inl ⟨by simp [Instr.findNow, he, Instr.sameNow, hb, ha], by simp [hlen], ?_⟩
      simp only [List.cons_append, MapR]
      rw [show g + 1 + es.length = g + ((V.int k m, v) :: es).length from by simp only [List.length_cons]; omega] at hr
      exact ⟨_, _, rfl, p1, p2, h1, h2, hr⟩
     ·refine .inr ⟨j + 1, e', by simp [Instr.findNow, he, Instr.sameNow, hb, ha]; omega, by simpa using hj, hk', by simp [hlen], ?_⟩
      simp only [List.set_cons_succ, MapR]
      exact ⟨_, _, rfl, p1, p2, h1, h2, hr⟩
   ·cases hp
  | _ => simp [mapPut] at hp
theorem map_put (hh : HR ok w B p h) {d j b : Nat} (hE : B d j = .mp b) {es es2 : List (V × V)} (hg : h.get d j = some (.mp es)) {en en2 : Array MapEntry} {cl cl2 : Nat}
  (hb : w.heap[b]? = some (.map en cl)) (hm : cl2 = es2.length ∧ MapR 0 es2 en2.toList) :
  Ext ok B w ok B (w.putObj b (.map en2 cl2)) ∧ HR ok (w.putObj b (.map en2 cl2)) B p (h.set d j (.mp es2)) := by
 have hbk : (B d j).blk = some b := by rw [hE]; rfl
 have hlt : b < w.heap.size := (Array.getElem?_eq_some_iff.1 hb).1
 have hcs : ∀ b', csize (w.putObj b (.map en2 cl2)) b' = csize w b' := by
  intro b'
  unfold csize
  by_cases hq : b' = b
  ·subst hq; rw [World.putObj_heap_same hlt, hb]
  ·rw [World.putObj_heap_other hq]
 have hx : Ext ok B w ok B (w.putObj b (.map en2 cl2)) :=
  ⟨by rw [World.putObj_size]; exact Nat.le_refl _, rfl, rfl, rfl, fun b' _ hu => World.putObj_heap_other fun e => hu d j (by rw [hbk, e]), OkLe.row hh (b1 := b) (fun n _ i _ => by simp [World.cell?, World.putObj_heap_same hlt, hb]) (fun k _ hne => World.putObj_heap_other hne), fun _ _ _ h => .inl h, fun d' j' => EntLe.refl _ fun b' _ => by rw [hcs]; exact Nat.le_refl _, fun _ _ _ h _ => h⟩
 refine ⟨hx, ⟨by rw [Heap.length_set]; exact hh.pos, fun d' j' => ?_, hh.inj, fun d' j' b' hb' => by rw [World.putObj_size]; exact hh.lt _ _ b' hb', fun b' n hb' => ⟨by rw [World.putObj_size]; exact (hh.okn b' n hb').1, (hh.okn b' n hb').2⟩, hh.glx hx⟩⟩
 rw [Heap.get_set hg]
 by_cases hq : d' = d ∧ j' = j
 ·obtain ⟨rfl, rfl⟩ := hq
  rw [if_pos ⟨rfl, rfl⟩, hE]
  exact ⟨es2, rfl, en2, cl2, World.putObj_heap_same hlt, hm⟩
 ·rw [if_neg hq]
  exact BlkR.mono hx hh d' j' rfl (fun b' hb' => World.putObj_heap_other fun e => by subst e; exact hq (hh.inj _ _ _ _ b' hb' hbk)) (hh.blk d' j')
theorem mapPut_rel {t : TypeId} {m ix x : V} {c i x' : Value} {h' : Heap} (hp : mapPutV P h t m ix x = some h') (hh : HR ok w B p h) (hm : VRel ok w B m c) (hi : VRel ok w B ix i) (hx : VRel ok w B x x') :
  ∃ w' B', (Instr.mapUpdate t c i x').run P w = .ok () w' ∧ Ext ok B w ok B' w' ∧ HR ok w' B' p h' := by
 unfold mapPutV at hp
 split at hp
 ·rename_i key elem d j k n hu
  split at hp
  ·rename_i kd es hk hg
   split at hp
   ·rename_i hpl
    obtain ⟨hkk, hpl⟩ := hpl
    subst hkk
    simp only [Option.map_eq_some_iff] at hp
    obtain ⟨es2, hes, rfl⟩ := hp
    obtain ⟨b, en, cl, hE, rfl, hb, hcl, hmr⟩ := mref_map hh hg hm
    simp only [VRel] at hi
    subst hi
    have hkey : IsKey (.int k) (.int k n) := by simp [IsKey]
    have hxa : ∀ ok w B, VRel ok w B x x' := fun ok w B => VRel.plain x x' hpl hx
    rcases mapPut_find (kd := k) rfl hpl hxa 0 0 hes hmr with ⟨ha, hlen, hr⟩ | ⟨q, e, ha, hq, hke, hlen, hr⟩
    ·obtain ⟨hx2, hh2⟩ := map_put (es2 := es2) hh hE hg hb (en2 := en.push { key := .int k n, val := x', born := cl }) (cl2 := cl + 1) ⟨by omega, by rw [Array.toList_push, hcl]; rw [Nat.zero_add] at hr; exact hr⟩
     refine ⟨_, B, ?_, hx2, hh2⟩
     simp only [Instr.mapUpdate, Sem.run_bind, r_under hu, Result.andThen, run_getObj_map hb, run_checkKey hk hkey, run_findKey hk ha, run_setObj_map _ hb]
     rfl
    ·have hq' : en[q]? = some e := by rw [← Array.getElem?_toList]; exact hq
     obtain ⟨hx2, hh2⟩ := map_put (es2 := es2) hh hE hg hb (en2 := en.modify (0 + q) fun e => { e with key := .int k n, val := x' }) (cl2 := cl) (And.intro (by omega) (by
      have : (en.modify (0 + q) fun e => { e with key := .int k n, val := x' }).toList = en.toList.set q { e with key := .int k n, val := x' } := by
       apply List.ext_getElem?
       intro z
       simp only [Nat.zero_add, Array.getElem?_toList, Array.getElem?_modify, List.getElem?_set]
       by_cases hz : q = z
       ·subst hz
        have hlt : q < en.toList.length := by rw [List.getElem?_eq_some_iff] at hq; exact hq.1
        simp only [if_true, hq', Option.map_some, if_pos hlt]
       ·simp [hz]
      rw [this]; exact hr))
     refine ⟨_, B, ?_, hx2, hh2⟩
     simp only [Instr.mapUpdate, Sem.run_bind, r_under hu, Result.andThen, run_getObj_map hb, run_checkKey hk hkey, run_findKey hk ha, Nat.zero_add, hq', Option.map_some, Option.getD_some, hke, run_keyThatStays hkey, run_setObj_map _ hb]
     rfl
   ·cases hp
  ·cases hp
 ·cases hp
theorem MapR.length : ∀ {n : Nat} {es : List (V × V)} {l : List MapEntry}, MapR n es l → l.length = es.length
 | _, [], l, h => by simp only [MapR] at h; subst h; rfl
 | n, (k, v) :: r, l, h => by
  obtain ⟨e, l', rfl, _, _, _, _, h3⟩ := h
  simp [MapR.length h3]
theorem MapR.get : ∀ {n : Nat} {es : List (V × V)} {l : List MapEntry} {i : Nat} {k v : V}, MapR n es l → es[i]? = some (k, v) →
  ∃ e, l[i]? = some e ∧ e.born = n + i ∧ (∀ ok w B, VRel ok w B k e.key) ∧ (∀ ok w B, VRel ok w B v e.val)
 | n, [], l, i, k, v, h, hi => by simp at hi
 | n, (k0, v0) :: r, l, i, k, v, h, hi => by
  obtain ⟨e, l', rfl, p1, _, h1, h2, h3⟩ := h
  cases i with
  | zero =>
   simp only [List.getElem?_cons_zero, Option.some.injEq, Prod.mk.injEq] at hi
   obtain ⟨rfl, rfl⟩ := hi
   exact ⟨e, rfl, p1.2, h1, h2⟩
  | succ i =>
   simp only [List.getElem?_cons_succ] at hi
   obtain ⟨e', g1, g2, g3, g4⟩ := MapR.get h3 hi
   exact ⟨e', by simpa using g1, by omega, g3, g4⟩
theorem MapR.born : ∀ {n : Nat} {es : List (V × V)} {l : List MapEntry} {i : Nat} {e : MapEntry}, MapR n es l → l[i]? = some e → e.born = n + i
 | n, [], l, i, e, h, hi => by simp only [MapR] at h; subst h; simp at hi
 | n, (k0, v0) :: r, l, i, e, h, hi => by
  obtain ⟨e0, l', rfl, p1, _, _, _, h3⟩ := h
  cases i with
  | zero => simp only [List.getElem?_cons_zero, Option.some.injEq] at hi; subst hi; exact p1.2
  | succ i => simp only [List.getElem?_cons_succ] at hi; have := MapR.born h3 hi; omega
theorem MapR.find : ∀ {n : Nat} {es : List (V × V)} {l : List MapEntry} {i : Nat} {e : MapEntry}, MapR n es l → l[i]? = some e → l.find? (fun x => x.born == n + i) = some e
 | n, [], l, i, e, h, hi => by simp only [MapR] at h; subst h; simp at hi
 | n, (k0, v0) :: r, l, i, e, h, hi => by
  obtain ⟨e0, l', rfl, p1, _, _, _, h3⟩ := h
  cases i with
  | zero => simp only [List.getElem?_cons_zero, Option.some.injEq] at hi; subst hi; simp [p1.2]
  | succ i =>
   simp only [List.getElem?_cons_succ] at hi
   have := MapR.find h3 hi
   rw [List.find?_cons, show (e0.born == n + (i + 1)) = false from by rw [p1.2]; simp]
   rw [show n + (i + 1) = n + 1 + i from by omega]
   exact this
theorem iter_at {d j : Nat} {c : Value} {d' j' since last : Nat} {seen : List Nat} {es : List (V × V)} (hh : HR ok w B p h) (hg : h.get d j = some (.it (some (d', j')) since seen last)) (hg2 : h.get (d + d') j' = some (.mp es)) (hr : VRel ok w B (.yield d j) c) :
  ∃ b mb en cl, B d j = .it b ∧ B (d + d') j' = .mp mb ∧ c = .pointer (some ⟨b, 0, none⟩) ∧ w.heap[b]? = some (.mapIter (some mb) since seen.toArray last) ∧ w.heap[mb]? = some (.map en cl) ∧ cl = es.length ∧ MapR 0 es en.toList := by
 have hb := hh.blk d j
 rw [hg] at hb
 simp only [VRel] at hr
 cases hE : B d j with
 | out => rw [hE] at hr; exact hr.elim
 | dead => rw [hE] at hb; simp [BlkR] at hb
 | loop l => rw [hE] at hb; simp [BlkR] at hb
 | row b ep esz => rw [hE] at hb; simp [BlkR] at hb
 | mp l => rw [hE] at hb; simp [BlkR] at hb
 | it b =>
  rw [hE] at hb hr
  obtain ⟨m, si, se, la, h1, h2⟩ := hb
  simp only [Option.some.injEq, Blk.it.injEq] at h1
  obtain ⟨rfl, rfl, rfl, rfl⟩ := h1
  rcases h2 d' j' rfl with h3 | ⟨mb, h3, h4⟩
  ·exfalso
   have := hh.blk (d + d') j'
   simp only [Bd.from_] at h3
   rw [h3, hg2] at this
   simp [BlkR] at this
  ·simp only [Bd.from_] at h3
   obtain ⟨b', en, cl, g1, g2, g3, g4⟩ := hh.map hg2 (by rw [h3]; simp)
   rw [h3] at g1
   simp only [Ent.mp.injEq] at g1
   subst g1
   exact ⟨b, mb, en, cl, rfl, h3, hr, h4, g2, g3, g4⟩
theorem range_rel {t : TypeId} {x v : V} {c : Value} {h' : Heap} (hm : rangeV P h t x = some (v, h')) (hh : HR ok w B p h) (hx : VRel ok w B x c) :
  ∃ c' w' B', (Instr.range t c).run P w = .ok c' w' ∧ Ext ok B w ok B' w' ∧ HR ok w' B' p h' ∧ VRel ok w' B' v c' := by
 unfold rangeV at hm
 split at hm
 ·rename_i key elem d j hu
  split at hm
  ·rename_i es hg
   simp only [Option.some.injEq, Prod.mk.injEq] at hm
   obtain ⟨rfl, rfl⟩ := hm
   obtain ⟨b, en, cl, hE, rfl, hb, rfl, hmr⟩ := mref_map hh hg hx
   have hne : ¬ (d = 0 ∧ j = h.top.length) := by
    rintro ⟨rfl, rfl⟩
    rw [hh.top_out] at hE; cases hE
   obtain ⟨hx2, hr⟩ := push_blk hh (.it (some (d, j)) es.length [] es.length) (.it w.heap.size) (.mapIter (some b) es.length #[] es.length) (fun b hb => by simp only [Ent.blk, Option.some.injEq] at hb; exact hb.symm)
    ⟨some (d, j), es.length, [], es.length, rfl, fun d' j' hm => by
     simp only [Option.some.injEq, Prod.mk.injEq] at hm
     obtain ⟨rfl, rfl⟩ := hm
     refine .inr ⟨b, ?_, heap_push_new w _⟩
     rw [Bd.from_zero, Bd.put_other _ _ hne]; exact hE⟩
   refine ⟨.pointer (some ⟨w.heap.size, 0, none⟩), _, _, ?_, hx2, hr, by simp only [VRel, Bd.put_same]⟩
   simp [Instr.range, r_under hu, Result.andThen, run_getObj_map hb]
  ·cases hm
 ·cases hm
theorem choose_one {α : Type} (k : Nat → Sem α) {q : Question} (hq : q.forced = true) : (choose q >>= k).run P w = (k 0).run P w := by
 simp [choose, Sem.run, hq]
theorem MapR.filter {es : List (V × V)} {l : List MapEntry} (hm : MapR 0 es l) (q : Nat → Bool) : l.filter (fun e => q e.born) = ((List.range l.length).filter q).map (fun i => l.getD i default) := by
 have hl : l = (List.range l.length).map (fun i => l.getD i default) := by
  apply List.ext_getElem?
  intro i
  by_cases hi : i < l.length
  ·simp [hi]
  ·simp [hi]
 conv => lhs; rw [hl]
 rw [List.filter_map]
 congr 1
 apply List.filter_congr
 intro i hi
 simp only [List.mem_range] at hi
 have hb := MapR.born hm (List.getElem?_eq_getElem hi)
 simp only [Function.comp, List.getD_eq_getElem?_getD, List.getElem?_eq_getElem hi, Option.getD_some]
 rw [hb, Nat.zero_add]
theorem nexts_old {es : List (V × V)} {en : Array MapEntry} (hm : MapR 0 es en.toList) {since : Nat} {seen A A2 : List Nat} (hn : nextsV es.length since seen = (A, A2)) :
  ((en.filter fun e => !seen.toArray.contains e.born).filter fun e => decide (e.born < since)).toList = A.map (fun i => en.toList.getD i default) ∧
  ((en.filter fun e => !seen.toArray.contains e.born).filter fun e => decide (e.born ≥ since)).toList = A2.map (fun i => en.toList.getD i default) := by
 have hlen := MapR.length hm
 simp only [nextsV, Prod.mk.injEq] at hn
 obtain ⟨rfl, rfl⟩ := hn
 rw [← hlen]
 refine ⟨?_, ?_⟩
 ·rw [Array.toList_filter, Array.toList_filter, List.filter_filter, List.filter_filter]
  have := MapR.filter hm (fun b => decide (b < since) && !seen.toArray.contains b)
  simpa using this
 ·rw [Array.toList_filter, Array.toList_filter, List.filter_filter, List.filter_filter]
  have := MapR.filter hm (fun b => decide (b ≥ since) && !seen.toArray.contains b)
  simpa using this
theorem toList_nil {α : Type} {a : Array α} (h : a.toList = []) : a = #[] := by apply Array.ext'; simpa using h
theorem toList_one {α : Type} {a : Array α} {x : α} (h : a.toList = [x]) : a = #[x] := by apply Array.ext'; simpa using h
theorem obj_put (hh : HR ok w B p h) {d j b : Nat} (hbk : (B d j).blk = some b) {blk blk2 : Blk} (hg : h.get d j = some blk) {o o2 : Obj} (hb : w.heap[b]? = some o) (ho : ∀ c el s, o ≠ .cells c el s) (ho2 : ∀ c el s, o2 ≠ .cells c el s)
  (hB : BlkR ok (w.putObj b o2) (B.from_ d) p (B d j) (some blk2)) : Ext ok B w ok B (w.putObj b o2) ∧ HR ok (w.putObj b o2) B p (h.set d j blk2) := by
 have hlt : b < w.heap.size := (Array.getElem?_eq_some_iff.1 hb).1
 have hcs : ∀ b', csize (w.putObj b o2) b' = csize w b' := by
  intro b'
  unfold csize
  by_cases hq : b' = b
  ·subst hq
   rw [World.putObj_heap_same hlt, hb]
   cases o <;> cases o2 <;> first | rfl | exact absurd rfl (ho _ _ _) | exact absurd rfl (ho2 _ _ _)
  ·rw [World.putObj_heap_other hq]
 have hx : Ext ok B w ok B (w.putObj b o2) :=
  ⟨by rw [World.putObj_size]; exact Nat.le_refl _, rfl, rfl, rfl, fun b' _ hu => World.putObj_heap_other fun e => hu d j (by rw [hbk, e]), OkLe.row hh (b1 := b) (fun n _ i _ => by simp only [World.cell?, World.putObj_heap_same hlt, hb]; cases o <;> cases o2 <;> first | rfl | exact absurd rfl (ho _ _ _) | exact absurd rfl (ho2 _ _ _)) (fun k _ hne => World.putObj_heap_other hne), fun _ _ _ h => .inl h, fun d' j' => EntLe.refl _ fun b' _ => by rw [hcs]; exact Nat.le_refl _, fun _ _ _ h _ => h⟩
 refine ⟨hx, ⟨by rw [Heap.length_set]; exact hh.pos, fun d' j' => ?_, hh.inj, fun d' j' b' hb' => by rw [World.putObj_size]; exact hh.lt _ _ b' hb', fun b' n hb' => ⟨by rw [World.putObj_size]; exact (hh.okn b' n hb').1, (hh.okn b' n hb').2⟩, hh.glx hx⟩⟩
 rw [Heap.get_set hg]
 by_cases hq : d' = d ∧ j' = j
 ·obtain ⟨rfl, rfl⟩ := hq
  rw [if_pos ⟨rfl, rfl⟩]
  exact hB
 ·rw [if_neg hq]
  exact BlkR.mono hx hh d' j' rfl (fun b' hb' => World.putObj_heap_other fun e => by subst e; exact hq (hh.inj _ _ _ _ b' hb' hbk)) (hh.blk d' j')
theorem next_rel {x v : V} {c : Value} {isString : Bool} {ty : TypeId} {h' : Heap} (hm : nextV h x isString = some (v, h')) (hh : HR ok w B p h) (hx : VRel ok w B x c) :
  ∃ c' w' B', (Instr.next c isString ty).run P w = .ok c' w' ∧ Ext ok B w ok B' w' ∧ HR ok w' B' p h' ∧ VRel ok w' B' v c' := by
 unfold nextV at hm
 split at hm
 ·rename_i d j
  split at hm
  ·rename_i d' j' since seen last hg
   split at hm
   ·rename_i es hg2
    split at hm
    ·cases hm
    rename_i hchk
    obtain ⟨b, mb, en, cl, hE, hE2, rfl, hb, hmb, rfl, hmr⟩ := iter_at hh hg hg2 hx
    have hlen := MapR.length hmr
    have hck : (!seen.toArray.isEmpty && !en.isEmpty && en.all fun e => decide (e.born ≥ last)) = false := by
     cases hse : seen with
     | nil => simp
     | cons a r =>
      cases hes : es with
      | nil =>
       rw [hes] at hlen
       have : en = #[] := toList_nil (List.length_eq_zero_iff.1 (by simpa using hlen))
       simp [this]
      | cons a' r' =>
       have hl0 : last ≠ 0 := by
        intro h0
        apply hchk
        rw [hse, hes, h0]; simp
       have h0 : 0 < en.toList.length := by rw [hlen, hes]; simp
       have hborn := MapR.born hmr (List.getElem?_eq_getElem h0)
       have : (en.all fun e => decide (e.born ≥ last)) = false := by
        rw [Array.all_eq_false]
        refine ⟨0, by simpa using h0, ?_⟩
        simp only [decide_eq_true_eq]
        have e1 : (en[0]'(by simpa using h0)).born = 0 := by simpa using hborn
        omega
       simp [this]
    have hget : ∀ {α : Type} (k : Obj → Sem α), (getObj b >>= k).run P w = (k (.mapIter (some mb) since seen.toArray last)).run P w := fun k => by simp [getObj, Sem.run, hb]
    have hget2 : ∀ {α : Type} (k : Obj → Sem α), (getObj mb >>= k).run P w = (k (.map en es.length)).run P w := fun k => by simp [getObj, Sem.run, hmb]
    have run0 : (Instr.next (.pointer (some ⟨b, 0, none⟩)) false ty).run P w =
     (do
      let old := (en.filter fun e => !seen.toArray.contains e.born).filter (·.born < since)
      let new := (en.filter fun e => !seen.toArray.contains e.born).filter (·.born ≥ since)
      let candidates := (if old.isEmpty then #[none] else #[]) ++ (old ++ new).map some
      match candidates[← choose (.mapNext candidates.size)]? with
      | some (some e) =>
       setObj b (.mapIter (some mb) since (seen.toArray.push e.born) es.length)
       pure (.tuple #[.bool true, e.key, e.val])
      | some none => pure (.tuple #[.bool false])
      | none => stuck "Next: no such candidate" : Sem Value).run P w := by
     simp only [Instr.next]
     rw [hget]
     simp only
     rw [hget2]
     simp only [hck]
     rfl
    split at hm
    ·rename_i hn
     simp only [Option.some.injEq, Prod.mk.injEq] at hm
     obtain ⟨rfl, rfl⟩ := hm
     obtain ⟨h1, h2⟩ := nexts_old hmr hn
     have e1 := toList_nil h1
     have e2 := toList_nil h2
     refine ⟨.tuple #[.bool false], w, B, ?_, Ext.refl ok B w, hh, by simp only [VRel, VRelL]; exact ⟨[.bool false], rfl, _, _, rfl, rfl, rfl⟩⟩
     rw [run0]
     simp only [e1, e2]
     rw [choose_one _ (by simp [Question.forced])]
     simp
    ·rename_i i hn
     simp only [Option.map_eq_some_iff, Prod.mk.injEq] at hm
     obtain ⟨⟨k, v1⟩, hi, rfl, rfl⟩ := hm
     obtain ⟨h1, h2⟩ := nexts_old hmr hn
     obtain ⟨e, ge, gb, gk, gv⟩ := MapR.get hmr hi
     rw [Nat.zero_add] at gb
     have e0 : en.toList.getD i default = e := by rw [List.getD_eq_getElem?_getD, ge]; rfl
     simp only [List.map_cons, List.map_nil, e0] at h1
     have e1 := toList_one h1
     have e2 := toList_nil h2
     have hbk : (B d j).blk = some b := by rw [hE]; rfl
     obtain ⟨hx2, hr⟩ := obj_put hh hbk hg (blk2 := .it (some (d', j')) since (seen ++ [i]) es.length) (o2 := .mapIter (some mb) since (seen.toArray.push e.born) es.length) hb (by simp) (by simp) (by
      rw [hE]
      refine ⟨_, _, _, _, rfl, fun d2 j2 hm2 => ?_⟩
      simp only [Option.some.injEq, Prod.mk.injEq] at hm2
      obtain ⟨rfl, rfl⟩ := hm2
      refine .inr ⟨mb, hE2, ?_⟩
      rw [World.putObj_heap_same ((Array.getElem?_eq_some_iff.1 hb).1), gb]
      simp)
     refine ⟨.tuple #[.bool true, e.key, e.val], _, B, ?_, hx2, hr, by simp only [VRel, VRelL]; exact ⟨[.bool true, e.key, e.val], rfl, _, _, rfl, rfl, _, _, rfl, gk _ _ _, _, _, rfl, gv _ _ _, rfl⟩⟩
     rw [run0]
     simp only [e1, e2]
     rw [choose_one _ (by simp [Question.forced])]
     simp [setObj, Sem.run, hb]
     rfl
    ·cases hm
   ·cases hm
  ·cases hm
 ·cases hm
theorem entry_rel {x v : V} {c : Value} (hm : entryV h x = some v) (hh : HR ok w B p h) (hx : VRel ok w B x c) : ∃ c', (Instr.entry c).run P w = .ok c' w ∧ VRel ok w B v c' := by
 unfold entryV at hm
 split at hm
 ·rename_i d j
  split at hm
  ·rename_i d' j' since seen last hg
   split at hm
   ·rename_i es i hg2 hl
    split at hm
    ·rename_i hcl
     simp only [Option.map_eq_some_iff] at hm
     obtain ⟨⟨k, v1⟩, hi, rfl⟩ := hm
     obtain ⟨b, mb, en, cl, hE, hE2, rfl, hb, hmb, rfl, hmr⟩ := iter_at hh hg hg2 hx
     obtain ⟨e, ge, gb, gk, gv⟩ := MapR.get hmr hi
     have hf := MapR.find hmr ge
     rw [Nat.zero_add] at hf
     have hf2 : en.find? (fun x => x.born == i) = some e := by rw [← Array.find?_toList]; exact hf
     refine ⟨.tuple #[e.key, e.val], ?_, by simp only [VRel, VRelL]; exact ⟨[e.key, e.val], rfl, _, _, rfl, gk _ _ _, _, _, rfl, gv _ _ _, rfl⟩⟩
     have hback : seen.toArray.back? = some i := by simpa using hl
     simp [Instr.entry, getObj, Sem.run, hb, hmb, hback, hcl, hf2]
    ·cases hm
   ·cases hm
  ·cases hm
 ·cases hm
end
end Go.Sim
end
section
namespace Go.Sim
open Go
section
variable {E : Env} {P : Program} {w : World} {ok : Nat → Nat → Prop} {B : Bd} {p : Array Oper → Bool} {h : Heap}
def Gives (n : Next) (c : Value) : Prop := n = .value c ∨ (n = .skip ∧ c = undef)
def OpR (ok : Nat → Nat → Prop) (B : Bd) (p : Array Oper → Bool) (P : Program) (w : World) (s : Sem Next) (v : V) (h' : Heap) : Prop :=
 ∃ n c w' B', s.run P w = .ok n w' ∧ Gives n c ∧ Ext ok B w ok B' w' ∧ HR ok w' B' p h' ∧ VRel ok w' B' v c
theorem OpR.value {s : Sem Value} {v : V} {h' : Heap} (hs : ∃ c w' B', s.run P w = .ok c w' ∧ Ext ok B w ok B' w' ∧ HR ok w' B' p h' ∧ VRel ok w' B' v c) : OpR ok B p P w (do pure (.value (← s))) v h' := by
 obtain ⟨c, w', B', h1, h2, h3, h4⟩ := hs
 exact ⟨.value c, c, w', B', by simp [h1], .inl rfl, h2, h3, h4⟩
theorem OpR.pure_ {s : Sem Value} {v : V} (hh : HR ok w B p h) (hs : ∃ c, s.run P w = .ok c w ∧ VRel ok w B v c) : OpR ok B p P w (do pure (.value (← s))) v h := by
 obtain ⟨c, h1, h2⟩ := hs
 exact OpR.value ⟨c, w, B, h1, Ext.refl ok B w, hh, h2⟩
theorem OpR.unit {s : Sem Unit} {h' : Heap} (hs : ∃ w' B', s.run P w = .ok () w' ∧ Ext ok B w ok B' w' ∧ HR ok w' B' p h') : OpR ok B p P w (do s; pure .skip) V.undef h' := by
 obtain ⟨w', B', h1, h2, h3⟩ := hs
 exact ⟨.skip, undef, w', B', by simp [h1], .inr ⟨rfl, rfl⟩, h2, h3, by simp only [V.undef, VRel]; exact ⟨[], rfl, rfl⟩⟩
theorem partsRel {ρ : Operand → V} {ρ' : Operand → Value} (hρ : ∀ x, VRel ok w B (ρ x) (ρ' x)) : ∀ (l : List (Nat × Operand)), PartsRel ok w B (partsV ρ l) (l.map fun (i, x) => (i, ρ' x))
 | [] => by simp [partsV, PartsRel]
 | (i, x) :: r => by
  simp only [partsV, List.map_cons, PartsRel]
  exact ⟨_, _, rfl, hρ x, partsRel hρ r⟩
theorem mapRel {ρ : Operand → V} {ρ' : Operand → Value} (hρ : ∀ x, VRel ok w B (ρ x) (ρ' x)) : ∀ (l : List Operand), VRelL ok w B (l.map ρ) (l.map ρ')
 | [] => by simp [VRelL]
 | x :: r => by
  simp only [List.map_cons, VRelL]
  exact ⟨_, _, rfl, hρ x, mapRel hρ r⟩
theorem optRel {ρ : Operand → V} {ρ' : Operand → Value} (hρ : ∀ x, VRel ok w B (ρ x) (ρ' x)) (o : Option Operand) : ORel ok w B (o.map ρ) (o.map ρ') := by
 cases o with
 | none => rfl
 | some x => exact ⟨_, rfl, hρ x⟩
theorem builtin_rel (hh : HR ok w B p h) {b : Builtin} {ts : Array TypeId} {ty : TypeId} {cs : Array Bool} {args : List V} {args' : Array Value} {v : V} {h' : Heap}
  (hb : builtinV P h b ts.toList args = some (v, h')) (ha : VRelL ok w B args args'.toList) : OpR ok B p P w (builtin b ts ty cs args') v h' := by
 have hts : ∀ {t : TypeId} {r : List TypeId}, ts.toList = t :: r → ts[0]? = some t ∧ ts[1]? = r.head? := by
  intro t r hr
  rw [← Array.getElem?_toList, ← Array.getElem?_toList, hr]
  exact ⟨rfl, by cases r <;> rfl⟩
 generalize hl : ts.toList = l at hb
 unfold builtinV at hb
 split at hb
 ·rename_i t r s x
  obtain ⟨h0, h1⟩ := hts hl
  simp only [VRelL] at ha
  obtain ⟨c1, l1, e1, r1, c2, l2, rfl, r2, rfl⟩ := ha
  have he : args' = #[c1, c2] := by apply Array.ext'; simpa using e1
  subst he
  rw [← h1] at hb
  exact OpR.value (append_rel hh hb h0 r1 r2)
 ·rename_i t r d s
  obtain ⟨h0, h1⟩ := hts hl
  simp only [VRelL] at ha
  obtain ⟨c1, l1, e1, r1, c2, l2, rfl, r2, rfl⟩ := ha
  have he : args' = #[c1, c2] := by apply Array.ext'; simpa using e1
  subst he
  exact OpR.value (copy_rel hh hb h0 r1 r2)
 ·rename_i t r x
  obtain ⟨h0, h1⟩ := hts hl
  simp only [VRelL] at ha
  obtain ⟨c1, l1, e1, r1, rfl⟩ := ha
  have he : args' = #[c1] := by apply Array.ext'; simpa using e1
  subst he
  simp only [Option.map_eq_some_iff, Prod.mk.injEq] at hb
  obtain ⟨v', hv, rfl, rfl⟩ := hb
  exact OpR.pure_ hh (len_rel hv r1 h0 ty)
 ·rename_i t r x
  obtain ⟨h0, h1⟩ := hts hl
  simp only [VRelL] at ha
  obtain ⟨c1, l1, e1, r1, rfl⟩ := ha
  have he : args' = #[c1] := by apply Array.ext'; simpa using e1
  subst he
  simp only [Option.map_eq_some_iff, Prod.mk.injEq] at hb
  obtain ⟨n, hn, rfl, rfl⟩ := hb
  split at hn
  ·rename_i e hu
   exact OpR.pure_ hh ⟨_, cap_rel hn r1 h0 hu ty, by simp [VRel]⟩
  ·cases hn
 ·rename_i t r x
  obtain ⟨h0, h1⟩ := hts hl
  simp only [VRelL] at ha
  obtain ⟨c1, l1, e1, r1, rfl⟩ := ha
  have he : args' = #[c1] := by apply Array.ext'; simpa using e1
  subst he
  exact OpR.value (clear_rel hh hb h0 r1)
 ·rename_i x r
  simp only [VRelL] at ha
  obtain ⟨c1, l1, e1, r1, r2⟩ := ha
  simp only [Option.map_eq_some_iff, Prod.mk.injEq] at hb
  obtain ⟨v', hv, rfl, rfl⟩ := hb
  refine OpR.pure_ hh ?_
  obtain ⟨c, hc, hr⟩ := fold_rel (P := P) (fun x y v a b h ha hb => min_rel x y v a b h ha hb) _ _ _ _ _ hv r1 r2
  exact ⟨c, by simp only [Builtin.min_, e1, hc], hr⟩
 ·rename_i x r
  simp only [VRelL] at ha
  obtain ⟨c1, l1, e1, r1, r2⟩ := ha
  simp only [Option.map_eq_some_iff, Prod.mk.injEq] at hb
  obtain ⟨v', hv, rfl, rfl⟩ := hb
  refine OpR.pure_ hh ?_
  obtain ⟨c, hc, hr⟩ := fold_rel (P := P) (fun x y v a b h ha hb => max_rel x y v a b h ha hb) _ _ _ _ _ hv r1 r2
  exact ⟨c, by simp only [Builtin.max_, e1, hc], hr⟩
 ·cases hb
theorem op_rel (hq : EqOk E) (hh : HR ok w B p h) {ρ : Operand → V} {ρ' : Operand → Value} (hρ : ∀ x, VRel ok w B (ρ x) (ρ' x)) {o : Oper} {v : V} {h' : Heap}
  (hop : opV E ρ h o.op = some (v, h')) : OpR ok B p E.P w (execOp ρ' o) v h' := by
 unfold opV at hop
 split at hop
 ·-- move
  rename_i op x heq
  simp only [Option.some.injEq, Prod.mk.injEq] at hop
  obtain ⟨rfl, rfl⟩ := hop
  exact ⟨.value (ρ' x), ρ' x, w, B, by simp [execOp, heq], .inl rfl, Ext.refl ok B w, hh, hρ x⟩
 ·rename_i op x heq
  simp only [Option.some.injEq, Prod.mk.injEq] at hop
  obtain ⟨rfl, rfl⟩ := hop
  exact ⟨.value (ρ' x), ρ' x, w, B, by simp [execOp, heq], .inl rfl, Ext.refl ok B w, hh, hρ x⟩
 ·rename_i op c a b heq
  split at hop
  ·rename_i t ht
   simp only [Option.some.injEq, Prod.mk.injEq] at hop
   obtain ⟨rfl, rfl⟩ := hop
   have hc := hρ c
   rw [ht] at hc
   simp only [VRel] at hc
   cases t with
   | true => exact ⟨.value (ρ' a), ρ' a, w, B, by simp [execOp, heq, hc, asBool], .inl rfl, Ext.refl ok B w, hh, hρ a⟩
   | false => exact ⟨.value (ρ' b), ρ' b, w, B, by simp [execOp, heq, hc, asBool], .inl rfl, Ext.refl ok B w, hh, hρ b⟩
  ·cases hop
 ·rename_i op elem heq
  simp only [Option.bind_eq_some_iff] at hop
  obtain ⟨z, hz, hop⟩ := hop
  split at hop
  ·rename_i hok
   simp only [Option.some.injEq, Prod.mk.injEq] at hop
   obtain ⟨rfl, rfl⟩ := hop
   have : execOp ρ' o = (do pure (.value (← Instr.alloc elem true (.tuple #[])))) := by simp only [execOp, heq]
   rw [this]
   exact OpR.value ((alloc_rel hz hok).push hh)
  ·cases hop
 ·rename_i op ty x heq
  split at hop
  ·rename_i hok
   simp only [Option.some.injEq, Prod.mk.injEq] at hop
   obtain ⟨rfl, rfl⟩ := hop
   have : execOp ρ' o = (do pure (.value (← Instr.box ty (ρ' x)))) := by simp only [execOp, heq]
   rw [this]
   exact OpR.value ((box_rel ty hok (hρ x)).push hh)
  ·cases hop
 ·rename_i op t parts heq
  simp only [Option.map_eq_some_iff, Prod.mk.injEq] at hop
  obtain ⟨v', hv, rfl, rfl⟩ := hop
  have : execOp ρ' o = (do pure (.value (← Instr.build t (parts.map fun (i, x) => (i, ρ' x))))) := by simp only [execOp, heq]
  rw [this]
  exact OpR.pure_ hh (build_rel hv (by rw [Array.toList_map]; exact partsRel hρ parts.toList))
 ·rename_i op t len parts heq
  split at hop
  ·rename_i elem hu
   simp only [Option.bind_eq_some_iff] at hop
   obtain ⟨k, hk, z, hz, hop⟩ := hop
   split at hop
   ·rename_i hc
    simp only [Option.bind_eq_some_iff] at hop
    obtain ⟨cells, hcl, hop⟩ := hop
    split at hop
    ·simp only [Option.some.injEq, Prod.mk.injEq] at hop
     obtain ⟨rfl, rfl⟩ := hop
     have : execOp ρ' o = (do pure (.value (← Instr.buildSlice t len (parts.map fun (i, x) => (i, ρ' x))))) := by simp only [execOp, heq]
     rw [this]
     exact OpR.value ((buildSlice_rel hu hk hz hc.1 hc.2.1 hc.2.2 hcl (by rw [Array.toList_map]; exact partsRel hρ parts.toList)).push hh)
    ·cases hop
   ·cases hop
  ·cases hop
 ·rename_i op t a heq
  simp only [Option.map_eq_some_iff, Prod.mk.injEq] at hop
  obtain ⟨v', hv, rfl, rfl⟩ := hop
  have : execOp ρ' o = (do pure (.value (← Instr.loadAt t (ρ' a)))) := by simp only [execOp, heq]
  rw [this]
  exact OpR.pure_ hh (loadV_rel hh hv (hρ a))
 ·rename_i op t a x heq
  simp only [Option.map_eq_some_iff, Prod.mk.injEq] at hop
  obtain ⟨h1, hv, rfl, rfl⟩ := hop
  have : execOp ρ' o = (do Instr.storeAt t (ρ' a) (ρ' x); pure .skip) := by simp only [execOp, heq]
  rw [this]
  exact OpR.unit (storeV_rel hh hv (hρ a) (hρ x))
 ·rename_i op x heq
  simp only [Option.map_eq_some_iff, Prod.mk.injEq] at hop
  obtain ⟨v', hv, rfl, rfl⟩ := hop
  have hr := nilCheck_rel hv (hρ x)
  refine ⟨.value (ρ' x), ρ' x, w, B, ?_, .inl rfl, Ext.refl ok B w, hh, hr⟩
  have hx := hρ x
  simp only [execOp, heq]
  unfold nilCheckV at hv
  split at hv
  ·rename_i d j oo ep hxe
   rw [hxe] at hx
   obtain ⟨a, ha⟩ := VRel.pshape hx
   simp [ha]
  ·rename_i cs oo hxe
   rw [hxe] at hx
   simp only [VRel] at hx
   obtain ⟨b, base, ha, _⟩ := hx
   simp [ha]
  ·rename_i f a b hxe
   rw [hxe] at hx
   simp only [VRel] at hx
   obtain ⟨a', b', ha, _⟩ := hx
   simp [ha]
  ·rename_i d j hxe
   rw [hxe] at hx
   rcases VRel.yshape hx with ⟨a, ha⟩ | ⟨a, ha⟩
   all_goals simp [ha]
  ·rename_i t x' hxe
   rw [hxe] at hx
   simp only [VRel] at hx
   obtain ⟨a, ha, _⟩ := hx
   simp [ha]
  ·cases hv
 ·rename_i op bop t x y n heq
  simp only [Option.map_eq_some_iff, Prod.mk.injEq] at hop
  obtain ⟨v', hv, rfl, rfl⟩ := hop
  have : execOp ρ' o = (do pure (.value (← (do eqGuard bop t x y (ρ' x) (ρ' y); binOp bop t (ρ' x) (ρ' y) : Sem Value)))) := by simp only [execOp, heq]
  rw [this]
  exact OpR.pure_ hh (binO_rel hq hv (hρ x) (hρ y))
 ·rename_i op uop t x heq
  simp only [Option.map_eq_some_iff, Prod.mk.injEq] at hop
  obtain ⟨v', hv, rfl, rfl⟩ := hop
  have : execOp ρ' o = (do pure (.value (← Op.unary uop (ρ' x)))) := by simp only [execOp, heq]
  rw [this]
  exact OpR.pure_ hh (unV_rel hv (hρ x))
 ·rename_i op src dst x heq
  have : execOp ρ' o = (do pure (.value (← convert src dst (ρ' x)))) := by simp only [execOp, heq]
  rw [this]
  exact OpR.value (convert_rel hh hop (hρ x))
 ·rename_i op t x heq
  have : execOp ρ' o = (do pure (.value (← Instr.makeInterface t (ρ' x)))) := by simp only [execOp, heq]
  rw [this]
  split at hop
  ·cases hop
  ·rename_i d hni hu
   simp only [Option.some.injEq, Prod.mk.injEq] at hop
   obtain ⟨rfl, rfl⟩ := hop
   exact OpR.pure_ hh ⟨_, makeInterface_rel hu (fun ms e => hni ms e) (hρ x)⟩
  ·cases hop
 ·rename_i op fn first captured heq
  simp only [Option.some.injEq, Prod.mk.injEq] at hop
  obtain ⟨rfl, rfl⟩ := hop
  have : execOp ρ' o = (do pure (.value (← Instr.makeFunc fn (first.map ρ') (captured.map ρ')))) := by simp only [execOp, heq]
  rw [this]
  refine OpR.pure_ hh ⟨.func fn (first.map ρ') (captured.map ρ'), by simp [Instr.makeFunc], ?_⟩
  simp only [VRel]
  exact ⟨first.toList.map ρ', captured.toList.map ρ', by rw [← Array.toList_map, ← Array.toList_map], mapRel hρ _, mapRel hρ _⟩
 ·rename_i op t l c heq
  have : execOp ρ' o = (do pure (.value (← Instr.makeSlice t (ρ' l) (ρ' c)))) := by simp only [execOp, heq]
  rw [this]
  obtain ⟨vf, blk, rfl, rfl, hA⟩ := makeSlice_rel hop
  exact OpR.value ((hA ok B p w _ _ (hρ l) (hρ c)).push hh)
 ·rename_i op t x lo hi mx heq
  simp only [Option.map_eq_some_iff, Prod.mk.injEq] at hop
  obtain ⟨v', hv, rfl, rfl⟩ := hop
  have : execOp ρ' o = (do pure (.value (← Instr.sliceAt t (ρ' x) (lo.map ρ') (hi.map ρ') (mx.map ρ')))) := by simp only [execOp, heq]
  rw [this]
  exact OpR.pure_ hh (slice_rel hv (hρ x) (optRel hρ lo) (optRel hρ hi) (optRel hρ mx))
 ·rename_i op s x f heq
  simp only [Option.map_eq_some_iff, Prod.mk.injEq] at hop
  obtain ⟨v', hv, rfl, rfl⟩ := hop
  have : execOp ρ' o = (do pure (.value (← Instr.fieldAt s (ρ' x) f))) := by simp only [execOp, heq]
  rw [this]
  exact OpR.pure_ hh (fieldAddr_rel hv (hρ x))
 ·rename_i op t x f heq
  simp only [Option.map_eq_some_iff, Prod.mk.injEq] at hop
  obtain ⟨v', hv, rfl, rfl⟩ := hop
  have : execOp ρ' o = (do pure (.value (← Instr.field t (ρ' x) f))) := by simp only [execOp, heq]
  rw [this]
  exact OpR.pure_ hh (field_rel hv (hρ x))
 ·rename_i op t x i heq
  simp only [Option.map_eq_some_iff, Prod.mk.injEq] at hop
  obtain ⟨v', hv, rfl, rfl⟩ := hop
  have : execOp ρ' o = (do pure (.value (← Instr.indexAt t (ρ' x) (ρ' i)))) := by simp only [execOp, heq]
  rw [this]
  exact OpR.pure_ hh (indexAddr_rel hv (hρ x) (hρ i))
 ·rename_i op t x i heq
  simp only [Option.map_eq_some_iff, Prod.mk.injEq] at hop
  obtain ⟨v', hv, rfl, rfl⟩ := hop
  have : execOp ρ' o = (do pure (.value (← Instr.index t (ρ' x) (ρ' i)))) := by simp only [execOp, heq]
  rw [this]
  exact OpR.pure_ hh (index_rel hv (hρ x) (hρ i))
 ·rename_i op x xt asserted ck heq
  simp only [Option.map_eq_some_iff, Prod.mk.injEq] at hop
  obtain ⟨v', hv, rfl, rfl⟩ := hop
  have : execOp ρ' o = (do pure (.value (← Instr.typeAssert (ρ' x) xt asserted ck))) := by simp only [execOp, heq]
  rw [this]
  exact OpR.pure_ hh (assert_rel hv (hρ x))
 ·rename_i op t r heq
  have : execOp ρ' o = (do pure (.value (← Instr.makeMap t (r.map ρ')))) := by simp only [execOp, heq]
  rw [this]
  exact OpR.value (makeMap_rel hop hh)
 ·rename_i op t m ix ck heq
  simp only [Option.map_eq_some_iff, Prod.mk.injEq] at hop
  obtain ⟨v', hv, rfl, rfl⟩ := hop
  have : execOp ρ' o = (do pure (.value (← Instr.lookup t (ρ' m) (ρ' ix) ck))) := by simp only [execOp, heq]
  rw [this]
  exact OpR.pure_ hh (lookup_rel hv hh (hρ m) (hρ ix))
 ·rename_i op t m k x heq
  simp only [Option.map_eq_some_iff, Prod.mk.injEq] at hop
  obtain ⟨h1, hv, rfl, rfl⟩ := hop
  have : execOp ρ' o = (do Instr.mapUpdate t (ρ' m) (ρ' k) (ρ' x); pure .skip) := by simp only [execOp, heq]
  rw [this]
  exact OpR.unit (mapPut_rel hv hh (hρ m) (hρ k) (hρ x))
 ·rename_i op t x heq
  have : execOp ρ' o = (do pure (.value (← Instr.range t (ρ' x)))) := by simp only [execOp, heq]
  rw [this]
  exact OpR.value (range_rel hop hh (hρ x))
 ·rename_i op it isString heq
  have : execOp ρ' o = (do pure (.value (← Instr.next (ρ' it) isString o.type))) := by simp only [execOp, heq]
  rw [this]
  exact OpR.value (next_rel hop hh (hρ it))
 ·rename_i op it heq
  simp only [Option.map_eq_some_iff, Prod.mk.injEq] at hop
  obtain ⟨v', hv, rfl, rfl⟩ := hop
  have : execOp ρ' o = (do pure (.value (← Instr.entry (ρ' it)))) := by simp only [execOp, heq]
  rw [this]
  exact OpR.pure_ hh (entry_rel hv hh (hρ it))
 ·rename_i op t i heq
  split at hop
  ·rename_i vs hvs
   simp only [Option.map_eq_some_iff, Prod.mk.injEq] at hop
   obtain ⟨v', hv, rfl, rfl⟩ := hop
   have : execOp ρ' o = (do pure (.value (← Instr.extract (ρ' t) i))) := by simp only [execOp, heq]
   rw [this]
   have ht := hρ t
   rw [hvs] at ht
   simp only [VRel] at ht
   obtain ⟨vs', he, hr⟩ := ht
   obtain ⟨c, hc, hcr⟩ := hr.get hv
   refine OpR.pure_ hh ⟨c, ?_, hcr⟩
   simp [he, Instr.extract, hc]
  ·cases hop
 ·rename_i op b args ts heq
  have : execOp ρ' o = builtin b ts o.type (args.map fun | .const _ => true | _ => false) (args.map ρ') := by
   simp only [execOp, heq, resolve]
   rfl
  rw [this]
  exact builtin_rel hh hop (by rw [Array.toList_map]; exact mapRel hρ _)
 ·cases hop
end
end Go.Sim
end
section
namespace Go.Sim
open Go
theorem VRel.okmono {ok ok2 : Nat → Nat → Prop} {w : World} {B : Bd} (h : ∀ b n, ok b n → ok2 b n) {v : V} {c : Value} (hv : VRel ok w B v c) : VRel ok2 w B v c :=
 VRel.mono (fun b n hb _ => ⟨h b n hb, fun _ _ => rfl⟩) (fun _ _ => EntLe.refl _ fun _ _ => Nat.le_refl _) v c hv
theorem VRelL.okmono {ok ok2 : Nat → Nat → Prop} {w : World} {B : Bd} (h : ∀ b n, ok b n → ok2 b n) {v : List V} {c : List Value} (hv : VRelL ok w B v c) : VRelL ok2 w B v c :=
 VRelL.mono (fun b n hb _ => ⟨h b n hb, fun _ _ => rfl⟩) (fun _ _ => EntLe.refl _ fun _ _ => Nat.le_refl _) v c hv
theorem ORelL.okmono {ok ok2 : Nat → Nat → Prop} {w : World} {B : Bd} (h : ∀ b n, ok b n → ok2 b n) {v : List V} {c : List Value} (hv : ORelL ok w B v c) : ORelL ok2 w B v c :=
 ORelL.mono (fun b n hb _ => ⟨h b n hb, fun _ _ => rfl⟩) (fun _ _ => EntLe.refl _ fun _ _ => Nat.le_refl _) v c hv
theorem VRel.bmono {ok : Nat → Nat → Prop} {w : World} {B B2 : Bd} (h : ∀ d j, B d j = .out ∨ B2 d j = B d j) {v : V} {c : Value} (hv : VRel ok w B v c) : VRel ok w B2 v c :=
 VRel.mono (OkLe.self ok w) (fun d j => by rcases h d j with h | h; rw [h]; trivial; rw [h]; exact EntLe.refl _ fun _ _ => Nat.le_refl _) v c hv
theorem VRelL.bmono {ok : Nat → Nat → Prop} {w : World} {B B2 : Bd} (h : ∀ d j, B d j = .out ∨ B2 d j = B d j) {v : List V} {c : List Value} (hv : VRelL ok w B v c) : VRelL ok w B2 v c :=
 VRelL.mono (OkLe.self ok w) (fun d j => by rcases h d j with h | h; rw [h]; trivial; rw [h]; exact EntLe.refl _ fun _ _ => Nat.le_refl _) v c hv
theorem ORelL.bmono {ok : Nat → Nat → Prop} {w : World} {B B2 : Bd} (h : ∀ d j, B d j = .out ∨ B2 d j = B d j) {v : List V} {c : List Value} (hv : ORelL ok w B v c) : ORelL ok w B2 v c :=
 ORelL.mono (OkLe.self ok w) (fun d j => by rcases h d j with h | h; rw [h]; trivial; rw [h]; exact EntLe.refl _ fun _ _ => Nat.le_refl _) v c hv
section
variable {ok ok2 : Nat → Nat → Prop} {w w2 : World} {B B2 : Bd}
def ViewH (ok ok2 : Nat → Nat → Prop) (w : World) (B : Bd) (hv : Heap) : Prop :=
 ∀ d j cells ep esz flat plain, hv.get d j = some (.row cells ep esz flat plain) → B d j ≠ .out →
  ∃ b, B d j = .row b ep esz ∧ (flat = true → V.flatL cells = true) ∧ RowR ok w (B.from_ d) b cells ∧ ∀ b0, b = some b0 → ∀ n, ok2 b0 n
theorem Heap.get_drop (h : Heap) (d d' j : Nat) : Heap.get (h.drop d) d' j = h.get (d + d') j := by
 unfold Heap.get; rw [List.getElem?_drop]
theorem Bd.from_from (B : Bd) (a b : Nat) : (B.from_ a).from_ b = B.from_ (a + b) := by funext d j; simp [Bd.from_, Nat.add_assoc]
theorem ViewH.drop {hv : Heap} (h : ViewH ok ok2 w B hv) (d : Nat) : ViewH ok ok2 w (B.from_ d) (hv.drop d) := by
 intro d' j cells ep esz flat plain hg hn
 rw [Heap.get_drop] at hg
 obtain ⟨b, h1, h2, h3, h4⟩ := h (d + d') j cells ep esz flat plain hg hn
 exact ⟨b, h1, h2, by rw [Bd.from_from]; exact h3, h4⟩
theorem crel_of_cells {b : Nat} (hb : ∀ n, ok b n) : ∀ {cs : List V} {l : List Value} {i : Nat}, ORelL ok w Bd.none_ cs l → (∀ j c, l[j]? = some c → w.cell? ⟨b, i + j, none⟩ = some c) → CRel ok w b i cs
 | [], l, i, _, _ => by simp [CRel]
 | v :: r, l, i, h, hc => by
  simp only [ORelL] at h
  obtain ⟨c, l', rfl, h1, hv, hr⟩ := h
  simp only [CRel]
  refine ⟨⟨c, by simpa using hc 0 c rfl, h1, ⟨i + 1, Nat.lt_succ_self _, hb _⟩, hv⟩, crel_of_cells hb hr fun j x hx => ?_⟩
  have := hc (j + 1) x (by simpa using hx)
  rwa [show i + 1 + j = i + (j + 1) from by omega]
theorem optMap_relL {f : V → Option V} {B2 : Bd} (hf : ∀ (v v' : V) (c : Value), f v = some v' → VRel ok w B v c → VRel ok2 w B2 v' c) : ∀ (l l' : List V) (cs : List Value), optMap f l = some l' → VRelL ok w B l cs → VRelL ok2 w B2 l' cs
 | [], l', cs, h, hr => by
  simp only [optMap, Option.some.injEq] at h; subst h
  simp only [VRelL] at hr ⊢; exact hr
 | v :: r, l', cs, h, hr => by
  simp only [optMap, Option.bind_eq_some_iff, Option.some.injEq] at h
  obtain ⟨v', hv', r', hr', rfl⟩ := h
  simp only [VRelL] at hr ⊢
  obtain ⟨c, l2, rfl, h1, h2⟩ := hr
  exact ⟨c, l2, rfl, hf _ _ _ hv' h1, optMap_relL hf _ _ _ hr' h2⟩
theorem optMap_relO {f : V → Option V} {B2 : Bd} (hf : ∀ (v v' : V) (c : Value), f v = some v' → VRel ok w B v c → VRel ok2 w B2 v' c) : ∀ (l l' : List V) (cs : List Value), optMap f l = some l' → ORelL ok w B l cs → ORelL ok2 w B2 l' cs
 | [], l', cs, h, hr => by
  simp only [optMap, Option.some.injEq] at h; subst h
  simp only [ORelL] at hr ⊢; exact hr
 | v :: r, l', cs, h, hr => by
  simp only [optMap, Option.bind_eq_some_iff, Option.some.injEq] at h
  obtain ⟨v', hv', r', hr', rfl⟩ := h
  simp only [ORelL] at hr ⊢
  obtain ⟨c, l2, rfl, h0, h1, h2⟩ := hr
  exact ⟨c, l2, rfl, h0, hf _ _ _ hv' h1, optMap_relO hf _ _ _ hr' h2⟩
theorem view_rel (hok : ∀ b n, ok b n → ok2 b n) : ∀ (fuel : Nat) (hv : Heap) (B : Bd), ViewH ok ok2 w B hv → ∀ (v v' : V) (c : Value), V.view fuel hv v = some v' → VRel ok w B v c → VRel ok2 w Bd.none_ v' c := by
 intro fuel
 induction fuel with
 | zero => intro hv B hV v v' c h _; simp [V.view] at h
 | succ n ih =>
  have row : ∀ (hv : Heap) (B : Bd), ViewH ok ok2 w B hv → ∀ (d j ep esz : Nat) (cells cs : List V) (flat plain : Bool), hv.get d j = some (.row cells ep esz flat plain) →
    (if flat then some cells else optMap (V.view n (hv.drop d)) cells) = some cs → B d j ≠ .out → ∃ b, B d j = .row b ep esz ∧ ∀ b0, b = some b0 → CRel ok2 w b0 0 cs := by
   intro hv B hV d j ep esz cells cs flat plain hg hcs hn
   obtain ⟨b, h1, h2, h3, h4⟩ := hV d j cells ep esz flat plain hg hn
   refine ⟨b, h1, fun b0 hb => ?_⟩
   subst hb
   obtain ⟨l, hl, hc⟩ := RowR.cell h3
   have hrel : ORelL ok2 w Bd.none_ cs l := by
    split at hcs
    ·rename_i hf
     simp only [Option.some.injEq] at hcs; subst hcs
     exact ORelL.okmono hok (ORelL.flat _ _ (h2 hf) hl)
    ·exact optMap_relO (fun v v' c => ih _ _ (hV.drop d) v v' c) _ _ _ hcs hl
   exact crel_of_cells (h4 _ rfl) hrel fun j c hj => by simpa using hc j c hj
  intro hv B hV v v' c h hr
  unfold V.view at h
  split at h
  ·rename_i d j off ep
   split at h
   ·rename_i cells ep' esz flat plain hg
    split at h
    ·rename_i he
     simp only [Option.bind_eq_some_iff, Option.some.injEq] at h
     obtain ⟨cs, hcs, rfl⟩ := h
     have hn : B d j ≠ .out := by intro hE; simp only [VRel, hE] at hr
     obtain ⟨b, hE, hb⟩ := row hv B hV d j ep' esz cells cs flat plain hg hcs hn
     simp only [VRel, hE] at hr
     rcases hr with ⟨hlt, _⟩ | ⟨_, b0, rfl, rfl⟩
     ·omega
     ·have h2 := hb b0 rfl
      simp only [VRel]
      exact ⟨b0, 0, by simp, h2⟩
    ·cases h
   ·cases h
  ·rename_i d j off len ep q
   split at h
   ·rename_i cells ep' esz flat plain hg
    split at h
    ·rename_i he
     simp only [Option.bind_eq_some_iff, Option.some.injEq] at h
     obtain ⟨cs, hcs, rfl⟩ := h
     have hn : B d j ≠ .out := by intro hE; simp only [VRel, hE] at hr
     obtain ⟨b, hE, hb⟩ := row hv B hV d j ep' esz cells cs flat plain hg hcs hn
     simp only [VRel, hE] at hr
     rcases hr with ⟨hlt, _⟩ | ⟨_, ⟨b0, cap, o, rfl, rfl, g1, g2, g3, g4⟩ | ⟨_, _, rfl, _, rfl⟩⟩
     ·omega
     ·have h2 := hb b0 rfl
      simp only [VRel]
      exact .inl ⟨b0, 0 + off, cap, ⟨b0, o, none⟩, rfl, g1, g2, fun h => by rw [g3 h, Nat.zero_add, Nat.add_zero], CRel.cut _ _ _ h2⟩
     ·simp only [VRel]; exact .inr ⟨trivial, trivial⟩
    ·cases h
   ·cases h
  ·cases h
  ·cases h
  ·cases h
  ·rename_i fn a b
   simp only [Option.bind_eq_some_iff, Option.some.injEq] at h
   obtain ⟨a', ha, b', hb, rfl⟩ := h
   simp only [VRel] at hr ⊢
   obtain ⟨a1, b1, hc, h1, h2⟩ := hr
   exact ⟨a1, b1, hc, optMap_relL (fun v v' c => ih _ _ hV v v' c) _ _ _ ha h1, optMap_relL (fun v v' c => ih _ _ hV v v' c) _ _ _ hb h2⟩
  ·rename_i t x
   simp only [Option.bind_eq_some_iff, Option.some.injEq] at h
   obtain ⟨x', hx, rfl⟩ := h
   simp only [VRel] at hr ⊢
   obtain ⟨x1, hc, h1⟩ := hr
   exact ⟨x1, hc, ih hv B hV _ _ _ hx h1⟩
  ·rename_i cs
   simp only [Option.bind_eq_some_iff, Option.some.injEq] at h
   obtain ⟨x', hx, rfl⟩ := h
   simp only [VRel] at hr ⊢
   obtain ⟨x1, hc, h1⟩ := hr
   exact ⟨x1, hc, optMap_relO (fun v v' c => ih _ _ hV v v' c) _ _ _ hx h1⟩
  ·rename_i cs
   simp only [Option.bind_eq_some_iff, Option.some.injEq] at h
   obtain ⟨x', hx, rfl⟩ := h
   simp only [VRel] at hr ⊢
   obtain ⟨x1, hc, h1⟩ := hr
   exact ⟨x1, hc, optMap_relL (fun v v' c => ih _ _ hV v v' c) _ _ _ hx h1⟩
  ·rename_i h1 h2 h3 h4 h5 h6 h7 h8 h9
   simp only [Option.some.injEq] at h; subst h
   have hf : V.flat v = true := by
    cases v <;> first | rfl | exact (h1 _ _ _ _ rfl).elim | exact (h2 _ _ _ _ _ _ rfl).elim | exact (h3 _ _ rfl).elim | exact (h4 _ _ rfl).elim | exact (h5 rfl).elim | exact (h6 _ _ _ rfl).elim | exact (h7 _ _ rfl).elim | exact (h8 _ rfl).elim | exact (h9 _ rfl).elim
   exact VRel.okmono hok (VRel.flat _ _ hf hr)
mutual
theorem canon_rel {B : Bd} : ∀ (v : V) (c : Value), VRel ok w B v c → VRel ok w B (V.canon v) c
 | .nilslice, c, h => by simp only [VRel] at h; simp only [V.canon, VRel]; exact .inr ⟨trivial, h⟩
 | .scon cs o l f, c, h => by
  simp only [V.canon, VRel] at h ⊢
  rcases h with ⟨b, base, cap, o', h1, h2, h3, h4, h5⟩ | h
  ·exact .inl ⟨b, base, cap, o', h1, h2, by simp, h4, canonC_rel b cs base h5⟩
  ·exact .inr h
 | .pcon cs o, c, h => by
  simp only [V.canon, VRel] at h ⊢
  obtain ⟨b, base, h1, h3⟩ := h
  exact ⟨b, base, h1, canonC_rel b cs base h3⟩
 | .iface t x, c, h => by
  simp only [V.canon, VRel] at h ⊢
  obtain ⟨x1, hc, h1⟩ := h
  exact ⟨x1, hc, canon_rel x x1 h1⟩
 | .agg cs, c, h => by
  simp only [V.canon, VRel] at h ⊢
  obtain ⟨x1, hc, h1⟩ := h
  exact ⟨x1, hc, canonO_rel cs x1 h1⟩
 | .tuple cs, c, h => by
  simp only [V.canon, VRel] at h ⊢
  obtain ⟨x1, hc, h1⟩ := h
  exact ⟨x1, hc, canonL_rel cs x1 h1⟩
 | .bool _, _, h | .int _ _, _, h | .float _ _, _, h | .str _, _, h | .nilptr, _, h | .nilfunc, _, h | .niliface, _, h | .nilmap, _, h | .poison, _, h | .pref _ _ _ _, _, h | .sref _ _ _ _ _ _, _, h
 | .mref _ _, _, h | .yield _ _, _, h | .func _ _ _, _, h => h
theorem canonL_rel {B : Bd} : ∀ (l : List V) (cs : List Value), VRelL ok w B l cs → VRelL ok w B (V.canonL l) cs
 | [], cs, h => by simpa only [V.canonL, VRelL] using h
 | v :: r, cs, h => by
  simp only [V.canonL, VRelL] at h ⊢
  obtain ⟨c, l2, rfl, h1, h2⟩ := h
  exact ⟨c, l2, rfl, canon_rel v c h1, canonL_rel r l2 h2⟩
theorem canonO_rel {B : Bd} : ∀ (l : List V) (cs : List Value), ORelL ok w B l cs → ORelL ok w B (V.canonL l) cs
 | [], cs, h => by simpa only [V.canonL, ORelL] using h
 | v :: r, cs, h => by
  simp only [V.canonL, ORelL] at h ⊢
  obtain ⟨c, l2, rfl, h0, h1, h2⟩ := h
  exact ⟨c, l2, rfl, h0, canon_rel v c h1, canonO_rel r l2 h2⟩
theorem canonC_rel (b : Nat) : ∀ (l : List V) (i : Nat), CRel ok w b i l → CRel ok w b i (V.canonL l)
 | [], i, h => by simp only [V.canonL, CRel]
 | v :: r, i, h => by
  simp only [V.canonL, CRel] at h ⊢
  obtain ⟨⟨c, hc, h1, hn, h2⟩, h3⟩ := h
  exact ⟨⟨c, hc, h1, hn, canon_rel v c h2⟩, canonC_rel b r (i + 1) h3⟩
end
end
end Go.Sim
end
section
namespace Go.Sim
open Go
section
variable {ok ok2 : Nat → Nat → Prop} {w : World} {B B2 : Bd} {top : Heap}
mutual
theorem freeze_rel (hok : ∀ b n, ok b n → ok2 b n) (hV : ViewH ok ok2 w B top) : ∀ (v v' : V) (c : Value), V.freeze top v = some v' → VRel ok w B v c → VRel ok2 w (B.from_ 1) v' c
 | .pref 0 j off ep, v', c, h, hr => ((view_rel hok 50 top B hV _ _ _ (by simpa only [V.freeze] using h) hr).any)
 | .sref 0 j off len ep q, v', c, h, hr => ((view_rel hok 50 top B hV _ _ _ (by simpa only [V.freeze] using h) hr).any)
 | .pref (d + 1) j off ep, v', c, h, hr => VRel.okmono hok (VRel.down 1 _ _ _ (by simpa only [V.freeze] using h) hr)
 | .sref (d + 1) j off len ep q, v', c, h, hr => VRel.okmono hok (VRel.down 1 _ _ _ (by simpa only [V.freeze] using h) hr)
 | .func fn a b, v', c, h, hr => by
  simp only [V.freeze, Option.bind_eq_some_iff, Option.some.injEq] at h
  obtain ⟨a', ha, b', hb, rfl⟩ := h
  simp only [VRel] at hr ⊢
  obtain ⟨a1, b1, hc, h1, h2⟩ := hr
  exact ⟨a1, b1, hc, freezeL_rel hok hV a a' a1 ha h1, freezeL_rel hok hV b b' b1 hb h2⟩
 | .iface t x, v', c, h, hr => by
  simp only [V.freeze, Option.bind_eq_some_iff, Option.some.injEq] at h
  obtain ⟨x', hx, rfl⟩ := h
  simp only [VRel] at hr ⊢
  obtain ⟨x1, hc, h1⟩ := hr
  exact ⟨x1, hc, freeze_rel hok hV x x' x1 hx h1⟩
 | .agg cs, v', c, h, hr => by
  simp only [V.freeze, Option.bind_eq_some_iff, Option.some.injEq] at h
  obtain ⟨x', hx, rfl⟩ := h
  simp only [VRel] at hr ⊢
  obtain ⟨x1, hc, h1⟩ := hr
  exact ⟨x1, hc, freezeO_rel hok hV cs x' x1 hx h1⟩
 | .tuple cs, v', c, h, hr => by
  simp only [V.freeze, Option.bind_eq_some_iff, Option.some.injEq] at h
  obtain ⟨x', hx, rfl⟩ := h
  simp only [VRel] at hr ⊢
  obtain ⟨x1, hc, h1⟩ := hr
  exact ⟨x1, hc, freezeL_rel hok hV cs x' x1 hx h1⟩
 | .bool _, v', c, h, hr | .int _ _, v', c, h, hr | .float _ _, v', c, h, hr | .str _, v', c, h, hr | .nilptr, v', c, h, hr | .nilslice, v', c, h, hr | .nilfunc, v', c, h, hr
 | .niliface, v', c, h, hr | .nilmap, v', c, h, hr | .poison, v', c, h, hr | .mref _ _, v', c, h, hr | .yield _ _, v', c, h, hr | .pcon _ _, v', c, h, hr | .scon _ _ _ _, v', c, h, hr =>
  VRel.okmono hok (VRel.down 1 _ _ _ (by simpa only [V.freeze] using h) hr)
theorem freezeL_rel (hok : ∀ b n, ok b n → ok2 b n) (hV : ViewH ok ok2 w B top) : ∀ (l l' : List V) (cs : List Value), V.freezeL top l = some l' → VRelL ok w B l cs → VRelL ok2 w (B.from_ 1) l' cs
 | [], l', cs, h, hr => by
  simp only [V.freezeL, Option.some.injEq] at h; subst h
  simp only [VRelL] at hr ⊢; exact hr
 | v :: r, l', cs, h, hr => by
  simp only [V.freezeL, Option.bind_eq_some_iff, Option.some.injEq] at h
  obtain ⟨v', hv, r', hr', rfl⟩ := h
  simp only [VRelL] at hr ⊢
  obtain ⟨c, l2, rfl, h1, h2⟩ := hr
  exact ⟨c, l2, rfl, freeze_rel hok hV v v' c hv h1, freezeL_rel hok hV r r' l2 hr' h2⟩
theorem freezeO_rel (hok : ∀ b n, ok b n → ok2 b n) (hV : ViewH ok ok2 w B top) : ∀ (l l' : List V) (cs : List Value), V.freezeL top l = some l' → ORelL ok w B l cs → ORelL ok2 w (B.from_ 1) l' cs
 | [], l', cs, h, hr => by
  simp only [V.freezeL, Option.some.injEq] at h; subst h
  simp only [ORelL] at hr ⊢; exact hr
 | v :: r, l', cs, h, hr => by
  simp only [V.freezeL, Option.bind_eq_some_iff, Option.some.injEq] at h
  obtain ⟨v', hv, r', hr', rfl⟩ := h
  simp only [ORelL] at hr ⊢
  obtain ⟨c, l2, rfl, h0, h1, h2⟩ := hr
  exact ⟨c, l2, rfl, h0, freeze_rel hok hV v v' c hv h1, freezeO_rel hok hV r r' l2 hr' h2⟩
end
def Bd.own (B : Bd) (h : Heap) : Bd := fun d j =>
 match d with
 | 0 => (match h.get 0 j with | some (.row _ _ _ true true) => B 0 j | _ => .out)
 | _ + 1 => .out
mutual
theorem own_rel {h : Heap} : ∀ (v : V) (c : Value), V.own h v = true → VRel ok w B v c → VRel ok2 w (B.own h) v c
 | .pref 0 j o e, c, f, hr => by
  simp only [V.own] at f
  split at f
  ·rename_i cells ep esz flat plain hg
   simp only [Bool.and_eq_true] at f
   obtain ⟨rfl, rfl⟩ := f
   simp only [VRel, Bd.own, hg] at hr ⊢
   exact hr
  ·cases f
 | .sref 0 j o l e q, c, f, hr => by
  simp only [V.own] at f
  split at f
  ·rename_i cells ep esz flat plain hg
   simp only [Bool.and_eq_true] at f
   obtain ⟨rfl, rfl⟩ := f
   simp only [VRel, Bd.own, hg] at hr ⊢
   exact hr
  ·cases f
 | .pref (d + 1) j o e, c, f, hr => by simp [V.own, V.plain] at f
 | .sref (d + 1) j o l e q, c, f, hr => by simp [V.own, V.plain] at f
 | .iface t x, c, f, hr => by
  simp only [V.own] at f
  simp only [VRel] at hr ⊢
  obtain ⟨x1, hc, h1⟩ := hr
  exact ⟨x1, hc, own_rel x x1 f h1⟩
 | .agg cs, c, f, hr => by
  simp only [V.own] at f
  simp only [VRel] at hr ⊢
  obtain ⟨x1, hc, h1⟩ := hr
  exact ⟨x1, hc, ownO_rel cs x1 f h1⟩
 | .tuple cs, c, f, hr => by
  simp only [V.own] at f
  simp only [VRel] at hr ⊢
  obtain ⟨x1, hc, h1⟩ := hr
  exact ⟨x1, hc, ownL_rel cs x1 f h1⟩
 | .poison, c, f, hr => by simp only [VRel]
 | .bool _, c, f, hr | .int _ _, c, f, hr | .float _ _, c, f, hr | .str _, c, f, hr | .nilptr, c, f, hr | .nilslice, c, f, hr | .nilfunc, c, f, hr
 | .niliface, c, f, hr | .nilmap, c, f, hr | .mref _ _, c, f, hr | .yield _ _, c, f, hr | .pcon _ _, c, f, hr | .func _ _ _, c, f, hr => VRel.plain _ _ (by simpa only [V.own] using f) hr
 | .scon cells o l full, c, f, hr => by
  by_cases h0 : cells = [] ∧ o = 0 ∧ l = 0 ∧ full = false
  ·obtain ⟨rfl, rfl, rfl, rfl⟩ := h0
   simp only [VRel] at hr ⊢
   rcases hr with ⟨b, base, cap, o, hc, h1, h2, h3, hr⟩ | h
   ·exact .inl ⟨b, base, cap, o, hc, h1, h2, h3, trivial⟩
   ·exact .inr h
  ·unfold V.own at f
   split at f <;> simp_all [V.plain]
theorem ownL_rel {h : Heap} : ∀ (l : List V) (cs : List Value), V.ownL h l = true → VRelL ok w B l cs → VRelL ok2 w (B.own h) l cs
 | [], cs, _, hr => by simp only [VRelL] at hr ⊢; exact hr
 | v :: r, cs, f, hr => by
  simp only [V.ownL, Bool.and_eq_true] at f
  simp only [VRelL] at hr ⊢
  obtain ⟨c, l2, rfl, h1, h2⟩ := hr
  exact ⟨c, l2, rfl, own_rel v c f.1 h1, ownL_rel r l2 f.2 h2⟩
theorem ownO_rel {h : Heap} : ∀ (l : List V) (cs : List Value), V.ownL h l = true → ORelL ok w B l cs → ORelL ok2 w (B.own h) l cs
 | [], cs, _, hr => by simp only [ORelL] at hr ⊢; exact hr
 | v :: r, cs, f, hr => by
  simp only [V.ownL, Bool.and_eq_true] at f
  simp only [ORelL] at hr ⊢
  obtain ⟨c, l2, rfl, h0, h1, h2⟩ := hr
  exact ⟨c, l2, rfl, h0, own_rel v c f.1 h1, ownO_rel r l2 f.2 h2⟩
end
def Bd.strip (B : Bd) : Bd := fun d j =>
 match d with
 | 0 => (match B 0 j with | .loop _ => .out | .it _ => .out | e => e)
 | _ + 1 => .out
mutual
theorem strip_rel : ∀ (v : V) (c : Value), VRel ok w B v c → VRel ok2 w B.strip (V.strip v) c
 | .pref 0 j o e, c, hr => by
  simp only [V.strip, VRel, Bd.strip] at hr ⊢
  cases hB : B 0 j with
  | loop l => rw [hB] at hr; exact hr.elim
  | it l => rw [hB] at hr; exact hr.elim
  | _ => rw [hB] at hr; exact hr
 | .sref 0 j o l e q, c, hr => by
  simp only [V.strip, VRel, Bd.strip] at hr ⊢
  cases hB : B 0 j with
  | loop l => rw [hB] at hr; exact hr.elim
  | it l => rw [hB] at hr; exact hr.elim
  | _ => rw [hB] at hr; exact hr
 | .pref (d + 1) j o e, c, hr => by simp [V.strip, V.plain, VRel]
 | .sref (d + 1) j o l e q, c, hr => by simp [V.strip, V.plain, VRel]
 | .pcon cells off, c, hr => by
  simp only [V.strip, VRel] at hr ⊢
  obtain ⟨b, base, rfl, h2⟩ := hr
  exact ⟨b, base + off, rfl, trivial⟩
 | .scon cells off len full, c, hr => by
  simp only [V.strip, VRel] at hr ⊢
  rcases hr with ⟨b, base, cap, o, rfl, h1, h2, h3, h5⟩ | h
  ·exact .inl ⟨b, base + off, cap, o, rfl, h1, fun h => by simp at h, h3, trivial⟩
  ·exact .inr h
 | .iface t x, c, hr => by
  simp only [V.strip, VRel] at hr ⊢
  obtain ⟨x1, hc, h1⟩ := hr
  exact ⟨x1, hc, strip_rel x x1 h1⟩
 | .agg cs, c, hr => by
  simp only [V.strip, VRel] at hr ⊢
  obtain ⟨x1, hc, h1⟩ := hr
  exact ⟨x1, hc, stripO_rel cs x1 h1⟩
 | .tuple cs, c, hr => by
  simp only [V.strip, VRel] at hr ⊢
  obtain ⟨x1, hc, h1⟩ := hr
  exact ⟨x1, hc, stripL_rel cs x1 h1⟩
 | .func fn a b, c, hr => by
  simp only [V.strip]
  split
  ·rename_i hp; exact VRel.plain _ _ hp hr
  ·simp only [VRel]
 | .poison, c, hr => by simp [V.strip, V.plain, VRel]
 | .mref _ _, c, hr | .yield _ _, c, hr => by simp [V.strip, V.plain, VRel]
 | .bool _, c, hr | .int _ _, c, hr | .float _ _, c, hr | .str _, c, hr | .nilptr, c, hr | .nilslice, c, hr | .nilfunc, c, hr
 | .niliface, c, hr | .nilmap, c, hr => by
  simp only [V.strip, V.plain, if_true]
  exact VRel.plain _ _ (by simp only [V.plain]) hr
theorem stripL_rel : ∀ (l : List V) (cs : List Value), VRelL ok w B l cs → VRelL ok2 w B.strip (V.stripL l) cs
 | [], cs, hr => by simp only [V.stripL, VRelL] at hr ⊢; exact hr
 | v :: r, cs, hr => by
  simp only [V.stripL, VRelL] at hr ⊢
  obtain ⟨c, l2, rfl, h1, h2⟩ := hr
  exact ⟨c, l2, rfl, strip_rel v c h1, stripL_rel r l2 h2⟩
theorem stripO_rel : ∀ (l : List V) (cs : List Value), ORelL ok w B l cs → ORelL ok2 w B.strip (V.stripL l) cs
 | [], cs, hr => by simp only [V.stripL, ORelL] at hr ⊢; exact hr
 | v :: r, cs, hr => by
  simp only [V.stripL, ORelL] at hr ⊢
  obtain ⟨c, l2, rfl, h0, h1, h2⟩ := hr
  exact ⟨c, l2, rfl, h0, strip_rel v c h1, stripO_rel r l2 h2⟩
end
structure OutB (k : Nat) (B Bn : Bd) : Prop where
 own : ∀ j, B 0 j = .out ∨ Bn 0 (k + j) = B 0 j ∨ (∃ l, (B 0 j = .loop l ∨ B 0 j = .it l) ∧ Bn 0 (k + j) = .dead)
 up : ∀ d j, B (d + 1) j = .out ∨ Bn d j = B (d + 1) j
mutual
theorem out_rel {k : Nat} (hb : OutB k B B2) : ∀ (v : V) (c : Value), VRel ok w B v c → VRel ok w B2 (V.out k v) c
 | .pref 0 j o e, c, hr => by
  simp only [V.out, if_true, VRel] at hr ⊢
  rcases hb.own j with h | h | ⟨l, h | h, h'⟩
  ·rw [h] at hr; exact hr.elim
  ·rw [h]; exact hr
  ·rw [h] at hr; exact hr.elim
  ·rw [h] at hr; exact hr.elim
 | .sref 0 j o l e q, c, hr => by
  simp only [V.out, if_true, VRel] at hr ⊢
  rcases hb.own j with h | h | ⟨l, h | h, h'⟩
  ·rw [h] at hr; exact hr.elim
  ·rw [h]; exact hr
  ·rw [h] at hr; exact hr.elim
  ·rw [h] at hr; exact hr.elim
 | .pref (d + 1) j o e, c, hr => by
  simp only [V.out, Nat.succ_ne_zero, if_false, VRel, Nat.add_sub_cancel] at hr ⊢
  rcases hb.up d j with h | h
  ·rw [h] at hr; exact hr.elim
  ·rw [h]; exact hr
 | .sref (d + 1) j o l e q, c, hr => by
  simp only [V.out, Nat.succ_ne_zero, if_false, VRel, Nat.add_sub_cancel] at hr ⊢
  rcases hb.up d j with h | h
  ·rw [h] at hr; exact hr.elim
  ·rw [h]; exact hr
 | .yield 0 j, c, hr => by
  simp only [V.out, if_true, VRel] at hr ⊢
  rcases hb.own j with h | h | ⟨l, h | h, h'⟩
  ·rw [h] at hr; exact hr.elim
  ·rw [h]; exact hr
  ·rw [h] at hr; rw [h']; exact .inl ⟨l, hr⟩
  ·rw [h] at hr; rw [h']; exact .inr ⟨_, hr⟩
 | .yield (d + 1) j, c, hr => by
  simp only [V.out, Nat.succ_ne_zero, if_false, VRel, Nat.add_sub_cancel] at hr ⊢
  rcases hb.up d j with h | h
  ·rw [h] at hr; exact hr.elim
  ·rw [h]; exact hr
 | .mref 0 j, c, hr => by
  simp only [V.out, if_true, VRel] at hr ⊢
  rcases hb.own j with h | h | ⟨l, h | h, h'⟩
  ·rw [h] at hr; exact hr.elim
  ·rw [h]; exact hr
  ·rw [h] at hr; exact hr.elim
  ·rw [h] at hr; exact hr.elim
 | .mref (d + 1) j, c, hr => by
  simp only [V.out, Nat.succ_ne_zero, if_false, VRel, Nat.add_sub_cancel] at hr ⊢
  rcases hb.up d j with h | h
  ·rw [h] at hr; exact hr.elim
  ·rw [h]; exact hr
 | .func fn a b, c, hr => by
  simp only [V.out, VRel] at hr ⊢
  obtain ⟨a1, b1, hc, h1, h2⟩ := hr
  exact ⟨a1, b1, hc, outL_rel hb a a1 h1, outL_rel hb b b1 h2⟩
 | .iface t x, c, hr => by
  simp only [V.out, VRel] at hr ⊢
  obtain ⟨x1, hc, h1⟩ := hr
  exact ⟨x1, hc, out_rel hb x x1 h1⟩
 | .agg cs, c, hr => by
  simp only [V.out, VRel] at hr ⊢
  obtain ⟨x1, hc, h1⟩ := hr
  exact ⟨x1, hc, outO_rel hb cs x1 h1⟩
 | .tuple cs, c, hr => by
  simp only [V.out, VRel] at hr ⊢
  obtain ⟨x1, hc, h1⟩ := hr
  exact ⟨x1, hc, outL_rel hb cs x1 h1⟩
 | .bool _, c, hr | .int _ _, c, hr | .float _ _, c, hr | .str _, c, hr | .nilptr, c, hr | .nilslice, c, hr | .nilfunc, c, hr
 | .niliface, c, hr | .nilmap, c, hr | .pcon _ _, c, hr | .scon _ _ _ _, c, hr => VRel.flat (B := B) _ _ (by rfl) hr
 | .poison, c, hr => by simp only [V.out, VRel]
theorem outL_rel {k : Nat} (hb : OutB k B B2) : ∀ (l : List V) (cs : List Value), VRelL ok w B l cs → VRelL ok w B2 (V.outL k l) cs
 | [], cs, hr => by simp only [V.outL, VRelL] at hr ⊢; exact hr
 | v :: r, cs, hr => by
  simp only [V.outL, VRelL] at hr ⊢
  obtain ⟨c, l2, rfl, h1, h2⟩ := hr
  exact ⟨c, l2, rfl, out_rel hb v c h1, outL_rel hb r l2 h2⟩
theorem outO_rel {k : Nat} (hb : OutB k B B2) : ∀ (l : List V) (cs : List Value), ORelL ok w B l cs → ORelL ok w B2 (V.outL k l) cs
 | [], cs, hr => by simp only [V.outL, ORelL] at hr ⊢; exact hr
 | v :: r, cs, hr => by
  simp only [V.outL, ORelL] at hr ⊢
  obtain ⟨c, l2, rfl, h0, h1, h2⟩ := hr
  exact ⟨c, l2, rfl, h0, out_rel hb v c h1, outO_rel hb r l2 h2⟩
end
def Bd.cut (B : Bd) (k : Nat) : Bd := fun d j => if d = 0 ∧ k ≤ j then .out else B d j
def Bd.cutK (B : Bd) (k : Nat) (g : Bool) : Bd := if g then (fun d j => match B d j with | .loop l => if d = 0 ∧ j = k then .dead else .loop l | e => e) else B.cut k
theorem Bd.cutK_false (B : Bd) (k : Nat) : B.cutK k false = B.cut k := rfl
theorem Bd.cutK_same {B : Bd} {k d j b : Nat} {g : Bool} (h : (B.cutK k g d j).blk = some b) : B.cutK k g d j = B d j := by
 cases g with
 | false =>
  simp only [Bd.cutK_false, Bd.cut] at h ⊢
  split at h
  ·simp [Ent.blk] at h
  ·rename_i hc; rw [if_neg hc]
 | true =>
  simp only [Bd.cutK, if_true] at h ⊢
  cases hE : B d j with
  | loop l =>
   rw [hE] at h
   simp only at h ⊢
   split at h
   ·simp [Ent.blk] at h
   ·rename_i hc; rw [if_neg hc]
  | _ => rfl
theorem Bd.cutK_blk {B : Bd} {k : Nat} {g : Bool} {d j b : Nat} (h : (B.cutK k g d j).blk = some b) : (B d j).blk = some b := by
 cases g with
 | false =>
  simp only [Bd.cutK_false, Bd.cut] at h
  split at h
  ·simp [Ent.blk] at h
  ·exact h
 | true =>
  simp only [Bd.cutK, if_true] at h
  cases he : B d j with
  | loop l =>
   rw [he] at h
   simp only at h
   split at h
   ·simp [Ent.blk] at h
   ·exact h
  | _ => rw [he] at h; exact h
theorem Bd.cutK_loop {B : Bd} {k : Nat} {g : Bool} {l : Nat} : B.cutK k g 0 k ≠ .loop l := by
 cases g with
 | false => simp [Bd.cutK_false, Bd.cut]
 | true =>
  simp only [Bd.cutK, if_true]
  cases he : B 0 k <;> simp
theorem view_getD (hok : ∀ b n, ok b n → ok2 b n) {m : Heap} (hV : ViewH ok ok2 w B m) {v : V} {c : Value} (hr : VRel ok w B v c) : VRel ok2 w B2 ((V.view 50 m v).getD .poison) c := by
 cases h : V.view 50 m v with
 | none => simp [VRel]
 | some v' => exact (view_rel hok 50 m B hV v v' c h hr).any
mutual
theorem settle_rel (hok : ∀ b n, ok b n → ok2 b n) {k : Nat} {m : Heap} (hV : ViewH ok ok2 w B m) : ∀ (v : V) (c : Value), VRel ok w B v c → VRel ok2 w (B.cut k) (V.settle k m v) c
 | .pref d j o e, c, hr => by
  simp only [V.settle]
  split
  ·exact view_getD hok hV hr
  ·rename_i h
   simp only [Bool.and_eq_true, beq_iff_eq, Nat.ble_eq] at h
   have := VRel.okmono hok hr
   simp only [VRel, Bd.cut, if_neg h] at this ⊢; exact this
 | .sref d j o l e q, c, hr => by
  simp only [V.settle]
  split
  ·exact view_getD hok hV hr
  ·rename_i h
   simp only [Bool.and_eq_true, beq_iff_eq, Nat.ble_eq] at h
   have := VRel.okmono hok hr
   simp only [VRel, Bd.cut, if_neg h] at this ⊢; exact this
 | .mref d j, c, hr => by
  simp only [V.settle]
  split
  ·simp only [VRel]
  ·rename_i h
   simp only [Bool.and_eq_true, beq_iff_eq, Nat.ble_eq] at h
   simp only [VRel, Bd.cut, if_neg h] at hr ⊢; exact hr
 | .yield d j, c, hr => by
  simp only [V.settle]
  split
  ·simp only [VRel]
  ·rename_i h
   simp only [Bool.and_eq_true, beq_iff_eq, Nat.ble_eq] at h
   simp only [VRel, Bd.cut, if_neg h] at hr ⊢; exact hr
 | .func fn a b, c, hr => by
  simp only [V.settle, VRel] at hr ⊢
  obtain ⟨a1, b1, hc, h1, h2⟩ := hr
  exact ⟨a1, b1, hc, settleL_rel hok hV a a1 h1, settleL_rel hok hV b b1 h2⟩
 | .iface t x, c, hr => by
  simp only [V.settle, VRel] at hr ⊢
  obtain ⟨x1, hc, h1⟩ := hr
  exact ⟨x1, hc, settle_rel hok hV x x1 h1⟩
 | .agg cs, c, hr => by
  simp only [V.settle, VRel] at hr ⊢
  obtain ⟨x1, hc, h1⟩ := hr
  exact ⟨x1, hc, settleO_rel hok hV cs x1 h1⟩
 | .tuple cs, c, hr => by
  simp only [V.settle, VRel] at hr ⊢
  obtain ⟨x1, hc, h1⟩ := hr
  exact ⟨x1, hc, settleL_rel hok hV cs x1 h1⟩
 | .bool _, c, hr | .int _ _, c, hr | .float _ _, c, hr | .str _, c, hr | .nilptr, c, hr | .nilslice, c, hr | .nilfunc, c, hr
 | .niliface, c, hr | .nilmap, c, hr | .pcon _ _, c, hr | .scon _ _ _ _, c, hr => VRel.flat (B := B) _ _ (by rfl) (VRel.okmono hok hr)
 | .poison, c, hr => by simp only [V.settle, VRel]
theorem settleL_rel (hok : ∀ b n, ok b n → ok2 b n) {k : Nat} {m : Heap} (hV : ViewH ok ok2 w B m) : ∀ (l : List V) (cs : List Value), VRelL ok w B l cs → VRelL ok2 w (B.cut k) (V.settleL k m l) cs
 | [], cs, hr => by simp only [V.settleL, VRelL] at hr ⊢; exact hr
 | v :: r, cs, hr => by
  simp only [V.settleL, VRelL] at hr ⊢
  obtain ⟨c, l2, rfl, h1, h2⟩ := hr
  exact ⟨c, l2, rfl, settle_rel hok hV v c h1, settleL_rel hok hV r l2 h2⟩
theorem settleO_rel (hok : ∀ b n, ok b n → ok2 b n) {k : Nat} {m : Heap} (hV : ViewH ok ok2 w B m) : ∀ (l : List V) (cs : List Value), ORelL ok w B l cs → ORelL ok2 w (B.cut k) (V.settleL k m l) cs
 | [], cs, hr => by simp only [V.settleL, ORelL] at hr ⊢; exact hr
 | v :: r, cs, hr => by
  simp only [V.settleL, ORelL] at hr ⊢
  obtain ⟨c, l2, rfl, h0, h1, h2⟩ := hr
  exact ⟨c, l2, rfl, h0, settle_rel hok hV v c h1, settleO_rel hok hV r l2 h2⟩
end
end
end Go.Sim
end
section
namespace Go.Sim
open Go
section
variable {ok ok2 : Nat → Nat → Prop} {w : World} {B B2 : Bd} {p : Array Oper → Bool} {h : Heap}
theorem RowR.okmono (hok : ∀ b n, ok b n → ok2 b n) {b : Option Nat} {cells : List V} (hr : RowR ok w B b cells) : RowR ok2 w B b cells := by
 cases b with
 | none => exact hr
 | some b =>
  obtain ⟨c, el, lo, hi, g1, g2, c1, c2, g3, g4⟩ := hr
  exact ⟨c, el, lo, hi, g1, g2, c1, c2, g3, ORelL.okmono hok g4⟩
theorem RowR.bmono (hb : ∀ d j, B d j = .out ∨ B2 d j = B d j) {b : Option Nat} {cells : List V} (hr : RowR ok w B b cells) : RowR ok w B2 b cells := by
 cases b with
 | none => exact hr
 | some b =>
  obtain ⟨c, el, lo, hi, g1, g2, c1, c2, g3, g4⟩ := hr
  exact ⟨c, el, lo, hi, g1, g2, c1, c2, g3, ORelL.bmono hb g4⟩
theorem RowR.to {b : Option Nat} {cells cells2 : List V} (hr : RowR ok w B b cells) (h0 : cells = [] → cells2 = []) (hc : ∀ l, ORelL ok w B cells l → ORelL ok2 w B2 cells2 l) : RowR ok2 w B2 b cells2 := by
 cases b with
 | none => exact h0 hr
 | some b =>
  obtain ⟨c, el, lo, hi, g1, g2, c1, c2, g3, g4⟩ := hr
  exact ⟨c, el, lo, hi, g1, g2, c1, c2, g3, hc _ g4⟩
theorem BlkR.to {e : Ent} {ob ob2 : Option Blk} (hb : BlkR ok w B p e ob) (hdead : ob = some .dead → ob2 = some .dead)
  (hrow : ∀ cells ep esz flat plain, ob = some (.row cells ep esz flat plain) → (flat = true → V.flatL cells = true) → (plain = true → V.plainL cells = true) → ∃ cells2 flat2 plain2, ob2 = some (.row cells2 ep esz flat2 plain2) ∧ (flat2 = true → V.flatL cells2 = true) ∧ (plain2 = true → V.plainL cells2 = true) ∧
   (cells = [] → cells2 = []) ∧ ∀ l, ORelL ok w B cells l → ORelL ok2 w B2 cells2 l)
  (hloop : ∀ fn tmps ps a c r pd, ob = some (.loop fn tmps ps a c r pd) → ∃ tmps2, ob2 = some (.loop fn tmps2 ps a c r pd) ∧ ∀ l, VRelL ok w B tmps l → VRelL ok2 w B2 tmps2 l)
  (hmp : ∀ es, ob = some (.mp es) → ob2 = some (.mp es))
  (hit : ∀ m since seen last, ob = some (.it m since seen last) → ∃ m2, ob2 = some (.it m2 since seen last) ∧ ∀ d j, m2 = some (d, j) → m = some (d, j) ∧ (B d j = .out ∨ B2 d j = B d j)) : BlkR ok2 w B2 p e ob2 := by
 cases e with
 | out => trivial
 | dead => exact hdead hb
 | mp b =>
  obtain ⟨es, h1, h2⟩ := hb
  exact ⟨es, hmp es h1, h2⟩
 | it b =>
  obtain ⟨m, since, seen, last, h1, h2⟩ := hb
  obtain ⟨m2, e1, e2⟩ := hit m since seen last h1
  refine ⟨m2, since, seen, last, e1, fun d j hm => ?_⟩
  obtain ⟨e3, e4⟩ := e2 d j hm
  rcases e4 with e4 | e4
  ·rcases h2 d j e3 with h | ⟨mb, h, _⟩
   ·rw [e4] at h; cases h
   ·rw [e4] at h; cases h
  ·rw [e4]
   exact h2 d j e3
 | row b ep esz =>
  obtain ⟨cells, flat, plain, h1, h2, h3, h4⟩ := hb
  obtain ⟨cells2, flat2, plain2, e1, e2, e3, e0, e4⟩ := hrow cells ep esz flat plain h1 h2 h3
  exact ⟨cells2, flat2, plain2, e1, e2, e3, h4.to e0 e4⟩
 | loop l =>
  obtain ⟨fn, tmps, ps, a, c, r, pd, L, h1, h2, g2, g3, g4, g5, g6⟩ := hb
  obtain ⟨tmps2, e1, e2⟩ := hloop fn tmps ps a c r pd h1
  exact ⟨fn, tmps2, ps, a, c, r, pd, L, e1, h2, g2, g3, g4, e2 _ g5, g6⟩
theorem BlkR.okmono (hok : ∀ b n, ok b n → ok2 b n) {e : Ent} {ob : Option Blk} (hb : BlkR ok w B p e ob) : BlkR ok2 w B p e ob :=
 hb.to id (fun cells ep esz flat plain h hf hp => ⟨cells, flat, plain, h, hf, hp, id, fun l => ORelL.okmono hok⟩) (fun fn tmps ps a c r pd h => ⟨tmps, h, fun l => VRelL.okmono hok⟩) (fun _ h => h) (fun m _ _ _ h => ⟨m, h, fun _ _ hm => ⟨hm, .inr rfl⟩⟩)
theorem BlkR.bmono (hbm : ∀ d j, B d j = .out ∨ B2 d j = B d j) {e : Ent} {ob : Option Blk} (hb : BlkR ok w B p e ob) : BlkR ok w B2 p e ob :=
 hb.to id (fun cells ep esz flat plain h hf hp => ⟨cells, flat, plain, h, hf, hp, id, fun l => ORelL.bmono hbm⟩) (fun fn tmps ps a c r pd h => ⟨tmps, h, fun l => VRelL.bmono hbm⟩) (fun _ h => h) (fun m _ _ _ h => ⟨m, h, fun d j hm => ⟨hm, hbm d j⟩⟩)
theorem Heap.get_setTop (hp : 0 < h.length) (l : List Blk) (d j : Nat) : (h.setTop l).get d j = if d = 0 then l[j]? else h.get d j := by
 cases h with
 | nil => simp at hp
 | cons t r => cases d <;> simp [Heap.setTop, Heap.get]
theorem Heap.top_setTop {h : Heap} (hp : 0 < h.length) (l : List Blk) : (h.setTop l).top = l := by
 cases h with
 | nil => simp at hp
 | cons t r => simp [Heap.setTop, Heap.top]
theorem Heap.top_mapTop (h : Heap) (f : Blk → Blk) : (h.setTop (h.top.map f)).top = h.top.map f := by
 cases h with
 | nil => rfl
 | cons t r => simp [Heap.setTop, Heap.top]
theorem Heap.length_setTop (l : List Blk) : (h.setTop l).length = h.length := by simp [Heap.setTop]
theorem Heap.get_top (hp : 0 < h.length) (j : Nat) : h.get 0 j = h.top[j]? := by
 cases h with
 | nil => simp at hp
 | cons t r => simp [Heap.top, Heap.get]
theorem Heap.get_one (l : List Blk) (d j : Nat) : Heap.get [l] d j = if d = 0 then l[j]? else none := by
 cases d <;> simp [Heap.get]
def Cut (ok : Nat → Nat → Prop) (B : Bd) (k : Nat) : Nat → Nat → Prop := fun b n => ok b n ∨ ∃ j ep esz, k ≤ j ∧ B 0 j = .row (some b) ep esz
def CutK (ok : Nat → Nat → Prop) (B : Bd) (k : Nat) (g : Bool) : Nat → Nat → Prop := if g then ok else Cut ok B k
theorem CutK_cases {ok : Nat → Nat → Prop} {B : Bd} {k : Nat} {g : Bool} {b n : Nat} (h : CutK ok B k g b n) : ok b n ∨ ∃ j ep esz, k ≤ j ∧ B 0 j = .row (some b) ep esz := by
 cases g with
 | false => exact h
 | true => exact .inl h
theorem view_cut (hh : HR ok w B p h) (k : Nat) : ViewH ok (Cut ok B k) w B [List.replicate k .dead ++ h.top.drop k] := by
 intro d j cells ep esz flat plain hg hn
 rw [Heap.get_one] at hg
 split at hg
 ·rename_i hd
  subst hd
  rw [List.getElem?_append, List.length_replicate] at hg
  split at hg
  ·rename_i hj
   simp [List.getElem?_replicate, hj] at hg
  ·rename_i hj
   rw [List.getElem?_drop, show k + (j - k) = j from by omega, ← Heap.get_top hh.pos] at hg
   obtain ⟨b, h1, h2, h3, h4⟩ := hh.row hg hn
   exact ⟨b, h1, h2, h4, fun b0 hb _ => .inr ⟨j, ep, esz, by omega, by rw [h1, hb]⟩⟩
 ·cases hg
theorem HR.top_lt (hh : HR ok w B p h) {j : Nat} (hj : h.top.length ≤ j) : B 0 j = .out := by
 apply hh.none_out
 rw [Heap.get_top hh.pos, List.getElem?_eq_none hj]
theorem trim_rel0 {s : St} (hg : s.heap.keeps = false) (hh : HR ok w B p s.heap) {l : List Value} (ht : VRelL ok w B s.tmps l) (k : Nat) :
  HR (Cut ok B k) w (B.cut k) p (s.trim k).heap ∧ VRelL (Cut ok B k) w (B.cut k) (s.trim k).tmps l ∧ (s.trim k).heap.length = s.heap.length := by
 have hok : ∀ b n, ok b n → Cut ok B k b n := fun b n hb => .inl hb
 have hlt : ∀ d j b, (B.cut k d j).blk = some b → (B d j).blk = some b := by
  intro d j b hb
  unfold Bd.cut at hb
  split at hb
  ·simp [Ent.blk] at hb
  ·exact hb
 have hcut1 : ∀ d, (B.cut k).from_ (d + 1) = B.from_ (d + 1) := by
  intro d; funext d' j
  simp only [Bd.from_, Bd.cut]
  rw [if_neg (by omega)]
 have hcutB : ∀ d j b, (B.cut k d j).blk = some b → B.cut k d j = B d j := by
  intro d j b hb
  unfold Bd.cut at hb ⊢
  split at hb
  ·simp [Ent.blk] at hb
  ·rename_i hc; rw [if_neg hc]
 have hokn : ∀ b n, Cut ok B k b n → b < w.heap.size ∧ ∀ d j, (B.cut k d j).blk = some b → (B.cut k d j).pre n := by
  intro b n hb
  rcases hb with hb | ⟨j0, ep0, esz0, hj0, hb⟩
  ·exact ⟨(hh.okn b n hb).1, fun d j hm => by rw [hcutB d j b hm]; exact (hh.okn b n hb).2 d j (hlt d j b hm)⟩
  ·have hb : (B 0 j0).blk = some b := by rw [hb]; rfl
   refine ⟨hh.lt 0 j0 b hb, fun d j hm => ?_⟩
   obtain ⟨rfl, rfl⟩ := hh.inj d j 0 j0 b (hlt d j b hm) hb
   unfold Bd.cut at hm
   rw [if_pos ⟨rfl, hj0⟩] at hm
   simp [Ent.blk] at hm
 unfold St.trim
 split
 ·rename_i hk
  have hB : B.cut k = B := by
   funext d j
   unfold Bd.cut
   split
   ·rename_i hc
    obtain ⟨rfl, hj⟩ := hc
    exact (hh.top_lt (by omega)).symm
   ·rfl
  refine ⟨?_, ?_, rfl⟩
  ·rw [hB] at hokn ⊢
   exact ⟨hh.pos, fun d j => (hh.blk d j).okmono hok, hh.inj, hh.lt, hokn, hh.glm hok fun _ _ _ => rfl⟩
  ·rw [hB]; exact VRelL.okmono hok ht
 ·have hV := view_cut hh k
  rw [if_neg (by rw [hg]; simp)]
  dsimp only
  refine ⟨⟨by rw [Heap.length_setTop]; exact hh.pos, fun d j => ?_, fun d j d' j' b hb hb' => hh.inj d j d' j' b (hlt d j b hb) (hlt d' j' b hb'), fun d j b hb => hh.lt d j b (hlt d j b hb), hokn, hh.glm hok fun _ _ _ => rfl⟩, settleL_rel hok hV _ _ ht, by rw [Heap.length_setTop]⟩
  cases d with
  | succ d =>
   rw [hcut1, Heap.get_setTop hh.pos, if_neg (by omega)]
   have : B.cut k (d + 1) j = B (d + 1) j := by unfold Bd.cut; rw [if_neg (by omega)]
   rw [this]
   exact (hh.blk (d + 1) j).okmono hok
  | zero =>
   rw [Bd.from_zero, Heap.get_setTop hh.pos, if_pos rfl]
   by_cases hj : k ≤ j
   ·have : B.cut k 0 j = .out := by unfold Bd.cut; rw [if_pos ⟨rfl, hj⟩]
    rw [this]; trivial
   ·have : B.cut k 0 j = B 0 j := by unfold Bd.cut; rw [if_neg (by omega)]
    rw [this]
    have hb := hh.blk 0 j
    rw [Bd.from_zero, Heap.get_top hh.pos] at hb
    rw [List.getElem?_map, List.getElem?_take, if_pos (by omega)]
    refine hb.to (fun h => by rw [h]; rfl) (fun cells ep esz flat plain h hf hp => ?_) (fun fn tmps ps a c r pd h => ?_) (fun es h => by rw [h]; rfl) (fun m since seen last h => ?_)
    ·rw [h]
     simp only [Option.map_some, settleBlk]
     cases flat with
     | true => exact ⟨cells, true, plain, rfl, hf, hp, id, fun l hl => ORelL.flat _ _ (hf rfl) (ORelL.okmono hok hl)⟩
     | false => exact ⟨_, false, false, rfl, by simp, by simp, fun h => by rw [h]; rfl, fun l hl => settleO_rel hok hV _ _ hl⟩
    ·rw [h]
     exact ⟨_, rfl, fun l hl => settleL_rel hok hV _ _ hl⟩
    ·rw [h]
     refine ⟨_, rfl, fun d' j' hm => ?_⟩
     split at hm
     ·rename_i j0
      split at hm
      ·cases hm
      ·rename_i hkj
       simp only [Option.some.injEq, Prod.mk.injEq] at hm
       obtain ⟨rfl, rfl⟩ := hm
       exact ⟨rfl, .inr (by unfold Bd.cut; rw [if_neg (by omega)])⟩
     ·rename_i hne
      subst hm
      refine ⟨rfl, .inr ?_⟩
      unfold Bd.cut
      rw [if_neg]
      rintro ⟨rfl, _⟩
      exact hne j' rfl
theorem Ext.cutKt (ok : Nat → Nat → Prop) (B : Bd) (w : World) (k : Nat) : Ext ok B w ok (B.cutK k true) w where
 size := Nat.le_refl _
 os := rfl
 tape := rfl
 output := rfl
 same := fun _ _ _ => rfl
 okLe := OkLe.refl _ _
 okOf := fun _ _ _ h => .inl h
 ent := fun d j => by
  simp only [Bd.cutK, if_true]
  cases he : B d j with
  | loop l =>
   simp only
   split
   ·exact .inl rfl
   ·exact .inr rfl
  | _ => exact EntLe.refl _ fun _ _ => Nat.le_refl _
 new := fun d j b hb _ => Bd.cutK_blk hb
theorem trim_rel {s : St} (hh : HR ok w B p s.heap) {l : List Value} (ht : VRelL ok w B s.tmps l) (k : Nat) :
  HR (CutK ok B k s.heap.keeps) w (B.cutK k s.heap.keeps) p (s.trim k).heap ∧ VRelL (CutK ok B k s.heap.keeps) w (B.cutK k s.heap.keeps) (s.trim k).tmps l ∧ (s.trim k).heap.length = s.heap.length := by
 cases hg : s.heap.keeps with
 | false => exact trim_rel0 hg hh ht k
 | true =>
  have hx := Ext.cutKt ok B w k
  have ht' : VRelL ok w (B.cutK k true) s.tmps l := hx.vrelL hh ht
  have hsame : ∀ d j, ¬(d = 0 ∧ j = k ∧ ∃ l, B d j = .loop l) → B.cutK k true d j = B d j := by
   intro d j hn
   simp only [Bd.cutK, if_true]
   cases he : B d j with
   | loop l =>
    simp only
    rw [if_neg]
    rintro ⟨h1, h2⟩
    exact hn ⟨h1, h2, l, he⟩
   | _ => rfl
  have key : ∀ h' : Heap, h'.length = s.heap.length → (∀ d j, ¬(d = 0 ∧ j = k ∧ ∃ l, B d j = .loop l) → B d j ≠ .out → h'.get d j = s.heap.get d j) → (∀ l, B 0 k = .loop l → h'.get 0 k = some .dead) → HR ok w (B.cutK k true) p h' := by
   intro h' hlen hget hdead
   refine ⟨by rw [hlen]; exact hh.pos, fun d j => ?_, fun d j d' j' b hb hb' => hh.inj d j d' j' b (Bd.cutK_blk hb) (Bd.cutK_blk hb'), fun d j b hb => hh.lt d j b (Bd.cutK_blk hb), fun b n hb => ⟨(hh.okn b n hb).1, fun d j hm => by rw [Bd.cutK_same hm]; exact (hh.okn b n hb).2 d j (Bd.cutK_blk hm)⟩, hh.gl⟩
   by_cases hc : d = 0 ∧ j = k ∧ ∃ l, B d j = .loop l
   ·obtain ⟨rfl, rfl, l, hl⟩ := hc
    have : B.cutK j true 0 j = .dead := by simp [Bd.cutK, hl]
    rw [this]
    exact hdead l hl
   ·have he := hsame d j hc
    by_cases ho : B d j = .out
    ·rw [he, ho]; trivial
    ·rw [hget d j hc ho]
     exact BlkR.mono hx hh d j he (fun _ _ => rfl) (hh.blk d j)
  unfold St.trim
  split
  ·rename_i hk
   refine ⟨key _ rfl (fun _ _ _ _ => rfl) fun l hl => ?_, ht', rfl⟩
   rw [hh.top_lt (by omega)] at hl; cases hl
  ·dsimp only
   unfold Heap.deadAt
   split
   ·rename_i hgl
    refine ⟨key _ (by rw [Heap.length_set]) (fun d j hc ho => ?_) fun l hl => ?_, ht', by rw [Heap.length_set]⟩
    ·by_cases hd : d = 0 ∧ j = k
     ·obtain ⟨rfl, rfl⟩ := hd
      exfalso
      have hb := hh.blk 0 j
      rw [hgl] at hb
      revert hb hc ho
      cases B 0 j with
      | out => intro ho _ _; exact ho rfl
      | loop l => intro _ hc _; exact hc ⟨rfl, rfl, l, rfl⟩
      | dead => intro _ _ hb; simp [BlkR] at hb
      | row b ep esz => intro _ _ hb; simp [BlkR] at hb
      | mp b => intro _ _ hb; simp [BlkR] at hb
      | it b => intro _ _ hb; simp [BlkR] at hb
     ·rw [Heap.get_set hgl, if_neg hd]
    ·rw [Heap.get_set hgl, if_pos ⟨rfl, rfl⟩]
   ·rename_i hgl
    refine ⟨key _ rfl (fun _ _ _ _ => rfl) fun l hl => ?_, ht', rfl⟩
    exfalso
    have hb := hh.blk 0 k
    rw [hl] at hb
    obtain ⟨fn, tmps, ps, a, c, r, pd, L, h1, _⟩ := hb
    exact hgl _ _ _ _ _ _ _ h1
theorem Ext.cut {ok0 : Nat → Nat → Prop} {B0 : Bd} {w0 : World} (hx : Ext ok0 B0 w0 ok B w) {k : Nat} (h0 : ∀ j, k ≤ j → B0 0 j = .out) : Ext ok0 B0 w0 (Cut ok B k) (B.cut k) w where
 size := hx.size
 os := hx.os
 tape := hx.tape
 output := hx.output
 same := hx.same
 okLe := fun b n hb hlt => ⟨.inl (hx.okLe b n hb hlt).1, (hx.okLe b n hb hlt).2⟩
 okOf := fun b n hb h => by
  rcases h with h | ⟨j, ep, esz, hj, hb'⟩
  ·exact hx.okOf b n hb h
  ·exact .inr ⟨0, j, hx.new 0 j b (by rw [hb']; rfl) hb⟩
 ent := fun d j => by
  unfold Bd.cut
  split
  ·rename_i hc
   obtain ⟨rfl, hj⟩ := hc
   rw [h0 j hj]; trivial
  ·exact hx.ent d j
 new := fun d j b hb hlt => by
  unfold Bd.cut at hb
  split at hb
  ·simp [Ent.blk] at hb
  ·exact hx.new d j b hb hlt
theorem Ext.cutK {ok0 : Nat → Nat → Prop} {B0 : Bd} {w0 : World} (hx : Ext ok0 B0 w0 ok B w) {k : Nat} {g : Bool} (h0 : ∀ j, k ≤ j → B0 0 j = .out) : Ext ok0 B0 w0 (CutK ok B k g) (B.cutK k g) w := by
 cases g with
 | false => exact hx.cut h0
 | true => exact hx.trans (Ext.cutKt ok B w k)
theorem VRelL.getD {l : List V} {l' : List Value} (hl : VRelL ok w B l l') (i : Nat) (hi : i < l.length) : ∃ c, l'[i]? = some c ∧ VRel ok w B (l.getD i .poison) c := by
 obtain ⟨c, hc, hv⟩ := hl.get (i := i) (List.getElem?_eq_getElem hi)
 refine ⟨c, hc, ?_⟩
 rw [List.getD_eq_getElem?_getD, List.getElem?_eq_getElem hi]
 exact hv
theorem VRelL.set_of {l : List V} {l' : List Value} (hl : VRelL ok w B l l') (i : Nat) (v : V) (hv : ∀ c, VRel ok w B (l.getD i .poison) c → VRel ok w B v c) : VRelL ok w B (l.set i v) l' := by
 by_cases hi : i < l.length
 ·obtain ⟨c, hc, hr⟩ := hl.getD i hi
  have := hl.set i (hv c hr)
  have he : l'.set i c = l' := by
   apply List.ext_getElem?
   intro j
   by_cases hj : i = j
   ·subst hj
    have hlt : i < l'.length := by rw [← hl.length]; exact hi
    rw [List.getElem?_set_self hlt]; exact hc.symm
   ·rw [List.getElem?_set_ne hj]
  rwa [he] at this
 ·rw [List.set_eq_of_length_le (by omega)]; exact hl
theorem ORelL.set_of {l : List V} {l' : List Value} (hl : ORelL ok w B l l') (i : Nat) {v0 : V} (hi : l[i]? = some v0) (v : V) (hv : ∀ c, VRel ok w B v0 c → VRel ok w B v c) : ORelL ok w B (l.set i v) l' := by
 obtain ⟨c, hc, h1, hr⟩ := hl.get hi
 have := hl.set i h1 (hv c hr)
 have he : l'.set i c = l' := by
  apply List.ext_getElem?
  intro j
  by_cases hj : i = j
  ·subst hj
   have hlt : i < l'.length := by
    rcases Nat.lt_or_ge i l'.length with h | h
    ·exact h
    ·rw [List.getElem?_eq_none h] at hc; cases hc
   rw [List.getElem?_set_self hlt]; exact hc.symm
  ·rw [List.getElem?_set_ne hj]
 rwa [he] at this
theorem HR.congr {h2 : Heap} (hh : HR ok w B p h) (hl : h2.length = h.length) (hg : ∀ d j, h2.get d j = h.get d j) : HR ok w B p h2 :=
 ⟨by rw [hl]; exact hh.pos, fun d j => by rw [hg]; exact hh.blk d j, hh.inj, hh.lt, hh.okn, hh.gl⟩
theorem HR.reset (hh : HR ok w B p h) {d j ep esz : Nat} {b : Option Nat} (hE : B d j = .row b ep esz) {x : Blk} (hg : h.get d j = some x) {cells2 : List V} {flat2 plain2 : Bool}
  (hr : RowR ok w (B.from_ d) b cells2) (hf : flat2 = true → V.flatL cells2 = true) (hp : plain2 = true → V.plainL cells2 = true) : HR ok w B p (h.set d j (.row cells2 ep esz flat2 plain2)) := by
 refine ⟨by rw [Heap.length_set]; exact hh.pos, fun d' j' => ?_, hh.inj, hh.lt, hh.okn, hh.gl⟩
 rw [Heap.get_set hg]
 by_cases hq : d' = d ∧ j' = j
 ·obtain ⟨rfl, rfl⟩ := hq
  rw [if_pos ⟨rfl, rfl⟩, hE]
  exact ⟨cells2, flat2, plain2, rfl, hf, hp, hr⟩
 ·rw [if_neg hq]; exact hh.blk d' j'
theorem prom_cell_rel {h h' : Heap} {j ep o esz : Nat} (hs : promCell j ep o esz h = some h') (hh : HR ok w B p h) (hno : B 0 j ≠ .out) :
  ∃ B', Ext ok B w ok B' w ∧ HR ok w B' p h' ∧ h'.length = h.length ∧ h.top.length ≤ h'.top.length ∧ B' 0 j ≠ .out ∧ ∀ (t : List V) (l : List Value), VRelL ok w B t l → VRelL ok w B' t l := by
 unfold promCell at hs
 split at hs
 ·rename_i cells ep' esz' fl pl hg
  split at hs
  ·rename_i hc
   split at hs
   ·rename_i hep
    subst hep
    simp only [Option.some.injEq] at hs; subst hs
    obtain ⟨b, hE, hf, hp, hrow⟩ := hh.row hg hno
    have hjl : j < h.top.length := by
     rcases Nat.lt_or_ge j h.top.length with h1 | h1
     ·exact h1
     ·exact absurd (hh.top_lt h1) hno
    obtain ⟨hx, hh'⟩ := push_none hh (.row [] 0 esz true true) (.row none 0 esz) rfl ⟨[], true, true, rfl, fun _ => rfl, fun _ => rfl, rfl⟩
    have hneq : ¬ ((0 : Nat) = 0 ∧ j = h.top.length) := by omega
    have hE' : (B.put 0 h.top.length (.row none 0 esz)) 0 j = .row b ep esz' := by rw [Bd.put_other B _ hneq]; exact hE
    have hg' : (h.push (.row [] 0 esz true true)).get 0 j = some (.row cells ep esz' fl pl) := by rw [Heap.get_push hh.pos, if_neg hneq]; exact hg
    have hrow' : RowR ok w ((B.put 0 h.top.length (.row none 0 esz)).from_ 0) b (cells.set o (.sref 0 h.top.length 0 0 0 (esz, false))) := by
     rw [Bd.from_zero] at hrow ⊢
     refine hrow.to (fun h => by subst h; simp at hc) fun l hl => ?_
     refine ORelL.set_of (hx.orelL hh hl) _ hc _ fun c hc => ?_
     simp only [VRel] at hc
     simp only [VRel, Bd.put_same]
     exact .inr ⟨trivial, .inr ⟨trivial, trivial, trivial, trivial, hc⟩⟩
    have hh2 := hh'.reset hE' hg' (flat2 := false) (plain2 := false) hrow' (by simp) (by simp)
    have hpos2 : 0 < (h.set 0 j (.row (cells.set o (.sref 0 h.top.length 0 0 0 (esz, false))) ep esz' false false)).length := by rw [Heap.length_set]; exact hh.pos
    have htl : (Heap.set h 0 j (.row (cells.set o (.sref 0 h.top.length 0 0 0 (esz, false))) ep esz' false false)).top.length = h.top.length := by
     have := hh.pos
     cases hs : h with
     | nil => simp [hs] at this
     | cons t r => simp [Heap.set, Heap.top]
    refine ⟨_, hx, hh2.congr (by simp [Heap.length_set, Heap.length_push]) fun d' j' => ?_, by simp [Heap.length_set, Heap.length_push], by rw [Heap.top_push hpos2, List.length_append, htl]; omega, by rw [hE']; simp, fun t l ht => hx.vrelL hh ht⟩
    rw [Heap.get_push hpos2, Heap.get_set hg', Heap.get_set hg, Heap.get_push hh.pos, htl]
    by_cases h1 : d' = 0 ∧ j' = h.top.length
    ·rw [if_pos h1, if_neg (by omega), if_pos h1]
    ·rw [if_neg h1, if_neg h1]
   ·cases hs
  ·simp only [Option.some.injEq] at hs; subst hs
   exact ⟨B, Ext.refl ok B w, hh, rfl, Nat.le_refl _, hno, fun _ _ ht => ht⟩
 ·cases hs
theorem prom_cells_rel : ∀ (n : Nat) {h h' : Heap} {B : Bd} {j ep o esz : Nat}, promCells j ep esz o n h = some h' → HR ok w B p h → B 0 j ≠ .out →
  ∃ B', Ext ok B w ok B' w ∧ HR ok w B' p h' ∧ h'.length = h.length ∧ h.top.length ≤ h'.top.length ∧ ∀ (t : List V) (l : List Value), VRelL ok w B t l → VRelL ok w B' t l
 | 0, h, h', B, j, ep, o, esz, hs, hh, hno => by
  simp only [promCells, Option.some.injEq] at hs; subst hs
  exact ⟨B, Ext.refl ok B w, hh, rfl, Nat.le_refl _, fun _ _ ht => ht⟩
 | n + 1, h, h', B, j, ep, o, esz, hs, hh, hno => by
  simp only [promCells, Option.bind_eq_some_iff] at hs
  obtain ⟨h1, e1, e2⟩ := hs
  obtain ⟨B1, x1, y1, l1, t1, n1, v1⟩ := prom_cell_rel e1 hh hno
  obtain ⟨B2, x2, y2, l2, t2, v2⟩ := prom_cells_rel n e2 y1 n1
  exact ⟨B2, x1.trans x2, y2, l2.trans l1, Nat.le_trans t1 t2, fun t l ht => v2 t l (v1 t l ht)⟩
theorem prom_all_rel {h h' : Heap} {v : V} {off esz : Nat} (hs : promAll v off esz h = some h') (hh : HR ok w B p h) {c : Value} (hv : v = .poison ∨ VRel ok w B v c) :
  ∃ B', Ext ok B w ok B' w ∧ HR ok w B' p h' ∧ h'.length = h.length ∧ h.top.length ≤ h'.top.length ∧ ∀ (t : List V) (l : List Value), VRelL ok w B t l → VRelL ok w B' t l := by
 have stay : ∃ B', Ext ok B w ok B' w ∧ HR ok w B' p h ∧ h.length = h.length ∧ h.top.length ≤ h.top.length ∧ ∀ (t : List V) (l : List Value), VRelL ok w B t l → VRelL ok w B' t l :=
  ⟨B, Ext.refl ok B w, hh, rfl, Nat.le_refl _, fun _ _ ht => ht⟩
 unfold promAll at hs
 split at hs
 ·rename_i j off0 ep
  split at hs
  ·rename_i cells ep' esz' fl pl hg
   split at hs
   ·rename_i hep
    subst hep
    split at hs
    ·rename_i j2 o2 len2 ep2 q hc
     split at hs
     ·simp only [Option.some.injEq] at hs; subst hs; exact stay
     ·rename_i hl
      have hr : VRel ok w B (.pref 0 j off0 ep) c := by
       rcases hv with h | h
       ·cases h
       ·exact h
      have hno : B 0 j ≠ .out := by intro hE; simp only [VRel, hE] at hr
      obtain ⟨b, hE, hf, hp, hrow⟩ := hh.row hg hno
      rw [Bd.from_zero] at hrow
      refine prom_cells_rel len2 hs hh ?_
      cases b with
      | none => simp only [RowR] at hrow; subst hrow; simp at hc
      | some b =>
       obtain ⟨_, _, _, _, _, _, c1, _, _, hO⟩ := hrow
       obtain ⟨x, _, _, hx⟩ := hO.get hc
       intro hE2
       simp only [VRel, hE2] at hx
    ·simp only [Option.some.injEq] at hs; subst hs; exact stay
   ·cases hs
  ·cases hs
 ·simp only [Option.some.injEq] at hs; subst hs; exact stay
theorem loose_rel {v : V} {c : Value} (h : VRel ok w B v c) : VRel ok w B (V.loose v) c := by
 cases v <;> try exact h
 rename_i d j o l e q
 simp only [V.loose, VRel] at h ⊢
 cases hE : B d j with
 | out => rw [hE] at h; exact h
 | dead => rw [hE] at h; exact h
 | loop l => rw [hE] at h; exact h
 | mp l => rw [hE] at h; exact h
 | it l => rw [hE] at h; exact h
 | row b ep esz =>
  rw [hE] at h
  rcases h with h | ⟨h, ⟨b0, cap, o', hb, hv, h1, h2, h3, h4⟩ | h'⟩
  ·exact .inl h
  ·exact .inr ⟨h, .inl ⟨b0, cap, o', hb, hv, h1, by simp, h3, h4⟩⟩
  ·exact .inr ⟨h, .inr h'⟩
theorem crel_plain {m : Nat} {b : Nat} (hb : ok b m) : ∀ {cs : List V} {l : List Value} {i : Nat}, ORelL ok w B cs l → V.plainL cs = true → i + cs.length ≤ m → (∀ j c, l[j]? = some c → w.cell? ⟨b, i + j, none⟩ = some c) → CRel ok w b i cs
 | [], l, i, _, _, _, _ => by simp [CRel]
 | v :: r, l, i, h, hp, hm, hc => by
  simp only [ORelL] at h
  obtain ⟨c, l', rfl, h1, hv, hr⟩ := h
  simp only [V.plainL, Bool.and_eq_true] at hp
  simp only [List.length_cons] at hm
  simp only [CRel]
  refine ⟨⟨c, by simpa using hc 0 c rfl, h1, ⟨m, by omega, hb⟩, VRel.flat _ _ (plain_flat hp.1) hv⟩, crel_plain hb hr hp.2 (by omega) fun j x hx => ?_⟩
  have := hc (j + 1) x (by simpa using hx)
  rwa [show i + 1 + j = i + (j + 1) from by omega]
section fork
variable {j ep : Nat} {b : Option Nat} {cells : List V}
theorem fork_div (a n : Nat) : (a % 4294967296 + 4294967296 * n) / 4294967296 = n := by omega
theorem Ent.pre_row {b : Option Nat} {ep esz n : Nat} : (Ent.row b ep esz).pre n ↔ n ≤ esz / 4294967296 := Iff.rfl
structure ForkH (ok ok2 : Nat → Nat → Prop) (w : World) (B B2 : Bd) (j ep : Nat) (b : Option Nat) (cells : List V) : Prop where
 okLe : OkLe ok ok2 w w
 ent : ∃ esz, B 0 j = .row b ep esz
 le : ∀ d j, EntLe w w (B d j) (B2 d j)
 con : ∀ b0, b = some b0 → CRel ok2 w b0 0 cells
mutual
theorem fork_val (H : ForkH ok ok2 w B B2 j ep b cells) : ∀ (v : V) (c : Value), VRel ok w B v c → VRel ok2 w B2 (V.fork j ep cells v) c
 | .pref d j' o e, c, hr => by
  simp only [V.fork]
  split
  ·rename_i h
   simp only [Bool.and_eq_true, beq_iff_eq] at h
   obtain ⟨rfl, rfl, rfl⟩ := h
   obtain ⟨esz, hE⟩ := H.ent
   simp only [VRel, hE] at hr
   rcases hr with ⟨h, _⟩ | ⟨_, b0, hb, rfl⟩
   ·omega
   ·simp only [VRel]
    exact ⟨b0, 0, by rw [Nat.zero_add], H.con b0 hb⟩
  ·exact VRel.mono H.okLe H.le _ _ hr
 | .sref d j' o l e q, c, hr => by
  simp only [V.fork]
  split
  ·rename_i h
   simp only [Bool.and_eq_true, beq_iff_eq] at h
   obtain ⟨rfl, rfl, rfl⟩ := h
   obtain ⟨esz, hE⟩ := H.ent
   simp only [VRel, hE] at hr
   rcases hr with ⟨h, _⟩ | ⟨_, ⟨b0, cap, o', hb, rfl, g1, g2, g3, g4⟩ | ⟨_, _, rfl, _, rfl⟩⟩
   ·omega
   ·simp only [VRel]
    exact .inl ⟨b0, 0, cap, ⟨b0, o', none⟩, rfl, g1, g2, fun h => by rw [g3 h, Nat.zero_add], H.con b0 hb⟩
   ·simp only [VRel]; exact .inr ⟨trivial, trivial⟩
  ·exact VRel.mono H.okLe H.le _ _ hr
 | .func fn a b, c, hr => by
  simp only [V.fork, VRel] at hr ⊢
  obtain ⟨a1, b1, hc, h1, h2⟩ := hr
  exact ⟨a1, b1, hc, fork_valL H a a1 h1, fork_valL H b b1 h2⟩
 | .iface t x, c, hr => by
  simp only [V.fork, VRel] at hr ⊢
  obtain ⟨x1, hc, h1⟩ := hr
  exact ⟨x1, hc, fork_val H x x1 h1⟩
 | .agg cs, c, hr => by
  simp only [V.fork, VRel] at hr ⊢
  obtain ⟨x1, hc, h1⟩ := hr
  exact ⟨x1, hc, fork_valO H cs x1 h1⟩
 | .tuple cs, c, hr => by
  simp only [V.fork, VRel] at hr ⊢
  obtain ⟨x1, hc, h1⟩ := hr
  exact ⟨x1, hc, fork_valL H cs x1 h1⟩
 | .bool _, c, hr | .int _ _, c, hr | .float _ _, c, hr | .str _, c, hr | .nilptr, c, hr | .nilslice, c, hr | .nilfunc, c, hr | .mref _ _, c, hr | .yield _ _, c, hr
 | .niliface, c, hr | .nilmap, c, hr | .pcon _ _, c, hr | .scon _ _ _ _, c, hr | .poison, c, hr => VRel.mono H.okLe H.le _ _ hr
theorem fork_valL (H : ForkH ok ok2 w B B2 j ep b cells) : ∀ (l : List V) (cs : List Value), VRelL ok w B l cs → VRelL ok2 w B2 (V.forkL j ep cells l) cs
 | [], cs, hr => by simp only [V.forkL, VRelL] at hr ⊢; exact hr
 | v :: r, cs, hr => by
  simp only [V.forkL, VRelL] at hr ⊢
  obtain ⟨c, l2, rfl, h1, h2⟩ := hr
  exact ⟨c, l2, rfl, fork_val H v c h1, fork_valL H r l2 h2⟩
theorem fork_valO (H : ForkH ok ok2 w B B2 j ep b cells) : ∀ (l : List V) (cs : List Value), ORelL ok w B l cs → ORelL ok2 w B2 (V.forkL j ep cells l) cs
 | [], cs, hr => by simp only [V.forkL, ORelL] at hr ⊢; exact hr
 | v :: r, cs, hr => by
  simp only [V.forkL, ORelL] at hr ⊢
  obtain ⟨c, l2, rfl, h0, h1, h2⟩ := hr
  exact ⟨c, l2, rfl, h0, fork_val H v c h1, fork_valO H r l2 h2⟩
end
end fork
theorem fork_rel {s s' : St} {i : Nat} (hs : forkV i s = some s') (hh : HR ok w B p s.heap) {l : List Value} (ht : VRelL ok w B s.tmps l) :
  ∃ ok' B', Ext ok B w ok' B' w ∧ HR ok' w B' p s'.heap ∧ VRelL ok' w B' s'.tmps l ∧ s'.heap.length = s.heap.length ∧ s'.fn = s.fn ∧ s.heap.top.length ≤ s'.heap.top.length := by
 have stay : ∃ ok' B', Ext ok B w ok' B' w ∧ HR ok' w B' p s.heap ∧ VRelL ok' w B' s.tmps l ∧ s.heap.length = s.heap.length ∧ s.fn = s.fn ∧ s.heap.top.length ≤ s.heap.top.length :=
  ⟨ok, B, Ext.refl ok B w, hh, ht, rfl, rfl, Nat.le_refl _⟩
 unfold forkV at hs
 split at hs
 ·rename_i j len ep q hi
  split at hs
  ·rename_i cells ep' esz hg
   split at hs
   ·rename_i hc
    obtain ⟨rfl, hez⟩ := hc
    simp only [Option.some.injEq] at hs; subst hs
    have hlt : i < s.tmps.length := by
     rcases Nat.lt_or_ge i s.tmps.length with h | h
     ·exact h
     ·rw [List.getD_eq_getElem?_getD, List.getElem?_eq_none h] at hi; cases hi
    obtain ⟨c, hci, hr⟩ := ht.getD i hlt
    rw [hi] at hr
    have hno : B 0 j ≠ .out := by intro hE; simp only [VRel, hE] at hr
    obtain ⟨b, hE, hf, hp, hrow⟩ := hh.row hg hno
    rw [Bd.from_zero] at hrow
    have hpl := hp rfl
    have hdiv : (esz % 4294967296 + 4294967296 * cells.length) / 4294967296 = cells.length := fork_div _ _
    generalize hez2 : esz % 4294967296 + 4294967296 * cells.length = esz2 at *
    have hBk : ∀ d' j', (B.put 0 j (.row b ep esz2) d' j').blk = (B d' j').blk := by
     intro d' j'
     by_cases hq : d' = 0 ∧ j' = j
     ·obtain ⟨rfl, rfl⟩ := hq; rw [Bd.put_same, hE]; rfl
     ·rw [Bd.put_other B _ hq]
    have hle : ∀ d' j', EntLe w w (B d' j') (B.put 0 j (.row b ep esz2) d' j') := by
     intro d' j'
     by_cases hq : d' = 0 ∧ j' = j
     ·obtain ⟨rfl, rfl⟩ := hq
      rw [Bd.put_same, hE]
      exact .inr ⟨_, _, _, rfl, .inr ⟨rfl, rfl, fun _ _ => Nat.le_refl _⟩⟩
     ·rw [Bd.put_other B _ hq]; exact EntLe.refl _ fun _ _ => Nat.le_refl _
    have hok : ∀ b' n, ok b' n → (fun b' n => ok b' n ∨ (b = some b' ∧ n ≤ cells.length)) b' n := fun b' n h => .inl h
    have hokLe : OkLe ok (fun b' n => ok b' n ∨ (b = some b' ∧ n ≤ cells.length)) w w := fun b' n h _ => ⟨.inl h, fun _ _ => rfl⟩
    have hx : Ext ok B w (fun b' n => ok b' n ∨ (b = some b' ∧ n ≤ cells.length)) (B.put 0 j (.row b ep esz2)) w := by
     refine ⟨Nat.le_refl _, rfl, rfl, rfl, fun _ _ _ => rfl, hokLe, fun b' n _ h => ?_, hle, fun d' j' b' hb' _ => by rwa [hBk] at hb'⟩
     rcases h with h | ⟨h, _⟩
     ·exact .inl h
     ·exact .inr ⟨0, j, by rw [hE]; exact h⟩
    have H : ForkH ok (fun b' n => ok b' n ∨ (b = some b' ∧ n ≤ cells.length)) w B (B.put 0 j (.row b ep esz2)) j ep b cells := by
     refine ⟨hokLe, ⟨_, hE⟩, hle, fun b0 hb0 => ?_⟩
     subst hb0
     obtain ⟨l', hl, hcv⟩ := RowR.cell hrow
     exact crel_plain (m := cells.length) (.inr ⟨rfl, Nat.le_refl _⟩) (ORelL.okmono hok hl) hpl (by omega) fun j c hj => by simpa using hcv j c hj
    have htop : 0 < (s.heap.setTop (s.heap.top.map (forkBlk j ep cells))).length := by rw [Heap.length_setTop]; exact hh.pos
    have hget0 : (s.heap.setTop (s.heap.top.map (forkBlk j ep cells))).get 0 j = some (forkBlk j ep cells (.row cells ep esz true true)) := by
     rw [Heap.get_setTop hh.pos, if_pos rfl, List.getElem?_map, ← Heap.get_top hh.pos, hg]; rfl
    refine ⟨_, _, hx, ?_, ?_, by rw [Heap.length_set, Heap.length_setTop], rfl, ?_⟩
    ·refine ⟨by rw [Heap.length_set]; exact htop, fun d' j' => ?_, fun d1 j1 d2 j2 b' h1 h2 => hh.inj d1 j1 d2 j2 b' (by rwa [hBk] at h1) (by rwa [hBk] at h2), fun d' j' b' h1 => hh.lt d' j' b' (by rwa [hBk] at h1), fun b' n hb' => ?_, hh.glx hx⟩
     ·rw [Heap.get_set hget0]
      by_cases hq : d' = 0 ∧ j' = j
      ·obtain ⟨rfl, rfl⟩ := hq
       rw [if_pos ⟨rfl, rfl⟩, Bd.put_same, Bd.from_zero]
       exact ⟨cells, true, true, rfl, hf, hp, (RowR.okmono hok hrow).to id fun l' hl' => ORelL.flat _ _ (hf rfl) hl'⟩
      ·rw [if_neg hq, Bd.put_other B _ hq, Heap.get_setTop hh.pos]
       by_cases hd : d' = 0
       ·subst hd
        rw [if_pos rfl, Bd.from_zero, List.getElem?_map, ← Heap.get_top hh.pos]
        have hb := hh.blk 0 j'
        rw [Bd.from_zero] at hb
        revert hb
        cases B 0 j' with
        | out => intro _; trivial
        | dead => intro hb; simp only [BlkR] at hb ⊢; rw [hb]; rfl
        | mp b1 =>
         rintro ⟨es, h1, h2⟩
         exact ⟨es, by rw [h1]; rfl, h2⟩
        | it b1 =>
         rintro ⟨m, since, seen, last, h1, h2⟩
         refine ⟨m, since, seen, last, by rw [h1]; rfl, fun d1 j1 hm => ?_⟩
         have hent := hle d1 j1
         rcases h2 d1 j1 hm with h | ⟨mb, h, h3⟩
         ·rw [h] at hent; exact .inl hent
         ·rw [h] at hent
          rcases hent with hent | hent
          ·exact .inl hent
          ·exact .inr ⟨mb, hent, h3⟩
        | row b1 ep1 esz1 =>
         rintro ⟨cs, flat, plain, h1, h2, h3, h4⟩
         rw [h1]
         simp only [Option.map_some, forkBlk]
         cases flat with
         | true => exact ⟨cs, true, plain, rfl, h2, h3, (RowR.okmono hok h4).to id fun l' hl' => ORelL.flat _ _ (h2 rfl) hl'⟩
         | false => exact ⟨_, false, false, rfl, by simp, by simp, h4.to (fun h => by subst h; rfl) fun l' hl' => fork_valO H _ _ hl'⟩
        | loop l1 =>
         rintro ⟨fn, tmps, ps, a, c, r, pd, L, h1, h2, g2, g3, g4, g5, g6⟩
         exact ⟨fn, _, ps, a, c, r, pd, L, by rw [h1]; rfl, h2, g2, g3, g4, fork_valL H _ _ g5, g6⟩
       ·rw [if_neg hd]
        have hfr : (B.put 0 j (.row b ep esz2)).from_ d' = B.from_ d' := by
         funext d1 j1
         simp only [Bd.from_]
         rw [Bd.put_other B _ (by omega)]
        rw [hfr]
        exact (hh.blk d' j').okmono hok
     ·rcases hb' with h | ⟨h, hn⟩
      ·refine ⟨(hh.okn b' n h).1, fun d' j' hm => ?_⟩
       rw [hBk] at hm
       have h1 := (hh.okn b' n h).2 d' j' hm
       by_cases hq : d' = 0 ∧ j' = j
       ·obtain ⟨rfl, rfl⟩ := hq
        rw [Bd.put_same]
        rw [hE, Ent.pre_row] at h1
        rw [Ent.pre_row, hdiv]
        exact Nat.le_trans h1 hez
       ·rw [Bd.put_other B _ hq]; exact h1
      ·have hbk : (B 0 j).blk = some b' := by rw [hE]; exact h
       refine ⟨hh.lt 0 j b' hbk, fun d' j' hm => ?_⟩
       rw [hBk] at hm
       obtain ⟨rfl, rfl⟩ := hh.inj _ _ _ _ b' hm hbk
       rw [Bd.put_same, Ent.pre_row, hdiv]; exact hn
    ·have hv := fork_valL H _ _ ht
     have h2 := hv.set i (hx.vrel hh hr)
     have he : l.set i c = l := by
      apply List.ext_getElem?
      intro k
      by_cases hk : i = k
      ·subst hk
       have hlt' : i < l.length := by rw [← ht.length]; exact hlt
       rw [List.getElem?_set_self hlt']; exact hci.symm
      ·rw [List.getElem?_set_ne hk]
     rwa [he] at h2
    ·have := hh.pos
     cases hs : s.heap with
     | nil => rw [hs] at this; simp at this
     | cons t r => simp [Heap.set, Heap.top, Heap.setTop]
   ·cases hs
  ·cases hs
 ·simp only [Option.some.injEq] at hs; subst hs; exact stay
theorem hint_rel {s s' : St} {hi : Hint} (hs : hintV hi s = some s') (hh : HR ok w B p s.heap) {l : List Value} (ht : VRelL ok w B s.tmps l) :
  ∃ ok' B', Ext ok B w ok' B' w ∧ HR ok' w B' p s'.heap ∧ VRelL ok' w B' s'.tmps l ∧ s'.heap.length = s.heap.length ∧ s'.fn = s.fn ∧ s.heap.top.length ≤ s'.heap.top.length := by
 unfold hintV at hs
 split at hs
 ·simp only [Option.some.injEq] at hs; subst hs
  exact ⟨ok, B, Ext.refl ok B w, hh, ht.set_of _ _ (fun c _ => by simp only [VRel]), rfl, rfl, Nat.le_refl _⟩
 ·simp only [Option.some.injEq] at hs; subst hs
  exact ⟨ok, B, Ext.refl ok B w, hh, ht.set_of _ _ (fun c hc => canon_rel _ _ hc), rfl, rfl, Nat.le_refl _⟩
 ·rename_i i esz
  split at hs
  ·rename_i hn
   simp only [Option.some.injEq] at hs; subst hs
   obtain ⟨hx, hh'⟩ := push_none hh (.row [] 0 esz true true) (.row none 0 esz) rfl ⟨[], true, true, rfl, fun _ => rfl, fun _ => rfl, rfl⟩
   refine ⟨ok, _, hx, hh', ?_, Heap.length_push _, rfl, by rw [Heap.top_push hh.pos]; simp⟩
   refine VRelL.set_of (hx.vrelL hh ht) i _ fun c hc => ?_
   rw [hn] at hc
   simp only [VRel] at hc
   simp only [VRel, Bd.put_same]
   exact .inr ⟨trivial, .inr ⟨trivial, trivial, trivial, trivial, hc⟩⟩
  ·simp only [Option.some.injEq] at hs; subst hs
   exact ⟨ok, B, Ext.refl ok B w, hh, ht, rfl, rfl, Nat.le_refl _⟩
 ·rename_i i off esz
  split at hs
  ·rename_i j off0 ep hi
   split at hs
   ·rename_i cells ep' esz' fl pl hg
    split at hs
    ·rename_i hc
     split at hs
     ·rename_i hep
      subst hep
      simp only [Option.some.injEq] at hs; subst hs
      have hlt : i < s.tmps.length := by
       rcases Nat.lt_or_ge i s.tmps.length with h | h
       ·exact h
       ·rw [List.getD_eq_getElem?_getD, List.getElem?_eq_none h] at hi; cases hi
      obtain ⟨c, _, hr⟩ := ht.getD i hlt
      rw [hi] at hr
      have hno : B 0 j ≠ .out := by intro hE; simp only [VRel, hE] at hr
      obtain ⟨b, hE, hf, hp, hrow⟩ := hh.row hg hno
      have hjl : j < s.heap.top.length := by
       rcases Nat.lt_or_ge j s.heap.top.length with h | h
       ·exact h
       ·exact absurd (hh.top_lt h) hno
      obtain ⟨hx, hh'⟩ := push_none hh (.row [] 0 esz true true) (.row none 0 esz) rfl ⟨[], true, true, rfl, fun _ => rfl, fun _ => rfl, rfl⟩
      have hneq : ¬ ((0 : Nat) = 0 ∧ j = s.heap.top.length) := by omega
      have hE' : (B.put 0 s.heap.top.length (.row none 0 esz)) 0 j = .row b ep esz' := by rw [Bd.put_other B _ hneq]; exact hE
      have hg' : (s.heap.push (.row [] 0 esz true true)).get 0 j = some (.row cells ep esz' fl pl) := by rw [Heap.get_push hh.pos, if_neg hneq]; exact hg
      have hrow' : RowR ok w ((B.put 0 s.heap.top.length (.row none 0 esz)).from_ 0) b (cells.set (off0 + off) (.sref 0 s.heap.top.length 0 0 0 (esz, false))) := by
       rw [Bd.from_zero] at hrow ⊢
       refine hrow.to (fun h => by subst h; simp at hc) fun l hl => ?_
       refine ORelL.set_of (hx.orelL hh hl) _ hc _ fun c hc => ?_
       simp only [VRel] at hc
       simp only [VRel, Bd.put_same]
       exact .inr ⟨trivial, .inr ⟨trivial, trivial, trivial, trivial, hc⟩⟩
      have hh2 := hh'.reset hE' hg' (flat2 := false) (plain2 := false) hrow' (by simp) (by simp)
      have hpos2 : 0 < (s.heap.set 0 j (.row (cells.set (off0 + off) (.sref 0 s.heap.top.length 0 0 0 (esz, false))) ep esz' false false)).length := by rw [Heap.length_set]; exact hh.pos
      have htl : (Heap.set s.heap 0 j (.row (cells.set (off0 + off) (.sref 0 s.heap.top.length 0 0 0 (esz, false))) ep esz' false false)).top.length = s.heap.top.length := by
       have := hh.pos
       cases hs : s.heap with
       | nil => simp [hs] at this
       | cons t r => simp [Heap.set, Heap.top]
      refine ⟨ok, _, hx, hh2.congr (by simp [Heap.length_set, Heap.length_push]) fun d' j' => ?_, hx.vrelL hh ht, by simp [Heap.length_set, Heap.length_push], rfl, by rw [Heap.top_push hpos2, List.length_append, htl]; omega⟩
      rw [Heap.get_push hpos2, Heap.get_set hg', Heap.get_set hg, Heap.get_push hh.pos, htl]
      by_cases h1 : d' = 0 ∧ j' = s.heap.top.length
      ·rw [if_pos h1, if_neg (by omega), if_pos h1]
      ·rw [if_neg h1, if_neg h1]
     ·cases hs
    ·simp only [Option.some.injEq] at hs; subst hs
     exact ⟨ok, B, Ext.refl ok B w, hh, ht, rfl, rfl, Nat.le_refl _⟩
   ·cases hs
  ·simp only [Option.some.injEq] at hs; subst hs
   exact ⟨ok, B, Ext.refl ok B w, hh, ht, rfl, rfl, Nat.le_refl _⟩
 ·rename_i i off esz
  simp only [Option.map_eq_some_iff] at hs
  obtain ⟨h', hs, rfl⟩ := hs
  have hv : ∃ c, s.tmps.getD i .poison = .poison ∨ VRel ok w B (s.tmps.getD i .poison) c := by
   by_cases hlt : i < s.tmps.length
   ·obtain ⟨c, _, hr⟩ := ht.getD i hlt
    exact ⟨c, .inr hr⟩
   ·exact ⟨undef, .inl (by rw [List.getD_eq_getElem?_getD, List.getElem?_eq_none (by omega)]; rfl)⟩
  obtain ⟨c, hv⟩ := hv
  obtain ⟨B', e1, e2, e3, e4, e5⟩ := prom_all_rel hs hh hv
  exact ⟨ok, B', e1, e2, e5 _ _ ht, e3, rfl, e4⟩
 ·simp only [Option.some.injEq] at hs; subst hs
  exact ⟨ok, B, Ext.refl ok B w, hh, ht.set_of _ _ (fun c hc => loose_rel hc), rfl, rfl, Nat.le_refl _⟩
 ·exact fork_rel hs hh ht
end
end Go.Sim
end
section
namespace Go.Sim
open Go
def FW (F : Fence) : Prop := F = Fence.wide ∨ ∃ l, F = Fence.wide.inRound l
theorem FW.fn {F : Fence} (h : FW F) (f : FuncId) : F.fn f := by rcases h with rfl | ⟨l, rfl⟩ <;> trivial
theorem FW.depth {F : Fence} (h : FW F) : F.depth.isSome = true → 1 ≤ 0 := by rcases h with rfl | ⟨l, rfl⟩ <;> (intro h; simp [Fence.wide, Fence.inRound] at h)
theorem FW.calls {F : Fence} (h : FW F) {n : Nat} {P : Program} {f : FuncId} {args : Array Value} {w : World} {R : Ending → World → Prop} (hc : CallsIn Fence.wide n P f args w R) : CallsIn F n P f args w R := by
 rcases h with rfl | ⟨l, rfl⟩ <;> exact hc
structure Base where
 n : Nat
 D : List Deferred
 shut : Bool
def itemD : Nat ⊕ Deferred → Deferred
 | .inl r => { target := .collected r, args := #[] }
 | .inr d => d
def lefts : List (Nat ⊕ Deferred) → List Nat
 | [] => []
 | .inl r :: l => r :: lefts l
 | .inr _ :: l => lefts l
def rights : List (Nat ⊕ Deferred) → List Deferred
 | [] => []
 | .inl _ :: l => rights l
 | .inr d :: l => d :: rights l
theorem items_plain : ∀ (is : List (Nat ⊕ Deferred)), rights is = [] → is.map itemD = (lefts is).map fun r => { target := .collected r, args := #[] }
 | [], _ => rfl
 | .inl r :: l, h => by simp only [List.map_cons, lefts, itemD, items_plain l h]
 | .inr d :: l, h => by simp [rights] at h
structure SR (p : Array Oper → Bool) (base : Base) (s : St) (ok : Nat → Nat → Prop) (B : Bd) (w : World) (a : Act) : Prop where
 heap : HR ok w B p s.heap
 tmps : VRelL ok w B s.tmps a.tmps.toList
 marks : ∃ rs : List (Nat ⊕ Deferred), (lefts rs).Nodup ∧ a.defers = rs.map itemD ∧ rights rs = base.D ∧ (base.shut = true → lefts rs = []) ∧
  ∀ r ∈ lefts rs, base.n ≤ r ∧ w.heap[r]? = some (.deferred (some [])) ∧ (∀ d j, (B d j).blk ≠ some r) ∧ ∀ n, ¬ ok r n
def Marks (base : Base) (ok : Nat → Nat → Prop) (B : Bd) (w : World) (ds : List Deferred) : Prop :=
 ∃ rs : List (Nat ⊕ Deferred), (lefts rs).Nodup ∧ ds = rs.map itemD ∧ rights rs = base.D ∧ (base.shut = true → lefts rs = []) ∧
  ∀ r ∈ lefts rs, base.n ≤ r ∧ w.heap[r]? = some (.deferred (some [])) ∧ (∀ d j, (B d j).blk ≠ some r) ∧ ∀ n, ¬ ok r n
section
variable {ok ok2 ok' : Nat → Nat → Prop} {w w' : World} {B B' : Bd} {p : Array Oper → Bool} {h : Heap}
theorem lt_of_heap {o : Obj} {r : Nat} (h : w.heap[r]? = some o) : r < w.heap.size := (Array.getElem?_eq_some_iff.1 h).1
theorem Marks.ext {base : Base} {ds : List Deferred} (hm : Marks base ok B w ds) (hx : Ext ok B w ok' B' w') : Marks base ok' B' w' ds := by
 obtain ⟨rs, h1, h2, hrt, hst, h3⟩ := hm
 refine ⟨rs, h1, h2, hrt, hst, fun r hr => ?_⟩
 obtain ⟨g1, g2, g3, g4⟩ := h3 r hr
 have hlt := lt_of_heap g2
 exact ⟨g1, (hx.same r hlt g3).trans g2, fun d j hb => g3 d j (hx.new d j r hb hlt), fun n hok => by
  rcases hx.okOf r n hlt hok with h | ⟨d, j, h⟩
  ·exact g4 n h
  ·exact g3 d j h⟩
theorem Marks.ext_bound {base : Base} {ds : List Deferred} (hm : Marks base ok B w ds) (hx : Ext ok B w ok' B' w') : ∃ rs : List (Nat ⊕ Deferred), (lefts rs).Nodup ∧ ds = rs.map itemD ∧ rights rs = base.D ∧ (base.shut = true → lefts rs = []) ∧
  ∀ r ∈ lefts rs, r < w.heap.size ∧ base.n ≤ r ∧ w'.heap[r]? = some (.deferred (some [])) ∧ (∀ d j, (B' d j).blk ≠ some r) ∧ ∀ n, ¬ ok' r n := by
 obtain ⟨rs, h1, h2, hrt, hst, h3⟩ := hm
 refine ⟨rs, h1, h2, hrt, hst, fun r hr => ?_⟩
 obtain ⟨g1, g2, g3, g4⟩ := h3 r hr
 have hlt := lt_of_heap g2
 exact ⟨hlt, g1, (hx.same r hlt g3).trans g2, fun d j hb => g3 d j (hx.new d j r hb hlt), fun n hok => by
  rcases hx.okOf r n hlt hok with h | ⟨d, j, h⟩
  ·exact g4 n h
  ·exact g3 d j h⟩
theorem Marks.cut {base : Base} {ds : List Deferred} (hm : Marks base ok B w ds) (k : Nat) {g : Bool} : Marks base (CutK ok B k g) (B.cutK k g) w ds := by
 obtain ⟨rs, h1, h2, hrt, hst, h3⟩ := hm
 refine ⟨rs, h1, h2, hrt, hst, fun r hr => ?_⟩
 obtain ⟨g1, g2, g3, g4⟩ := h3 r hr
 refine ⟨g1, g2, fun d j hb => g3 d j (Bd.cutK_blk hb), fun n hc => ?_⟩
 ·rcases CutK_cases hc with h | ⟨j, ep, esz, _, h⟩
  ·exact g4 n h
  ·exact g3 0 j (by rw [h]; rfl)
structure After (p : Array Oper → Bool) (ok : Nat → Nat → Prop) (B : Bd) (w : World) (n : Nat) (h' : Heap) (r : V) (ok' : Nat → Nat → Prop) (B' : Bd) (w' : World) (v : Value) : Prop where
 ext : Ext ok B w ok' B' w'
 heap : HR ok' w' B' p h'
 val : VRel ok' w' B' r v
 len : h'.length = n
def CallS (P : Program) (p : Array Oper → Bool) (f : FuncId) (args : List V) (h : Heap) (r : V) (h' : Heap) : Prop :=
 ∀ (ok : Nat → Nat → Prop) (B : Bd) (w : World) (args' : List Value) (R : Ending → World → Prop), HR ok w B p h → VRelL ok w B args args' →
  (∀ ok' B' w' v, After p ok B w h.length h' r ok' B' w' v → R (.returned v) w') → CallsIn Fence.wide 0 P f args'.toArray w R
structure SoundC (P : Program) (p : Array Oper → Bool) (c : Code) (s : St) (e : Exit) (s' : St) (F : Fence) (base : Base) (ok : Nat → Nat → Prop) (B : Bd) (w : World) (a : Act) (Q : Exit → Act → World → Prop) : Prop where
 good : goodCode p c = true
 fence : FW F
 rounds : (F.round ≠ none ∨ base.shut = true) → noRange c = true
 st : SR p base s ok B w a
 base_le : base.n ≤ w.heap.size
 post : ∀ ok' B' w' a', Ext ok B w ok' B' w' → SR p base s' ok' B' w' a' → s'.heap.length = s.heap.length → Q e a' w'
structure Sound (P : Program) (p : Array Oper → Bool) (rec : Rec) (m : Nat) : Prop where
 code : ∀ c s e s', rec c s = some (e, s') → ∀ F base ok B w a Q, SoundC P p c s e s' F base ok B w a Q → c.wpIn F 0 P Q a w
 loop : ∀ c s e s', rec (.loop c) s = some (e, s') → ∀ F base ok B w a Q, SoundC P p (.loop c) s e s' F base ok B w a Q → Code.roundsIn F 0 P c Q m a w
theorem results_rel {P : Program} {s : St} (hh : HR ok w B p s.heap) {tmps : Array Value} (ht : VRelL ok w B s.tmps tmps.toList) : ∀ {l : List ResultVar} {vs : List V}, resultsV P s l = some vs →
  ∃ cs : List Value, (l.mapM (m := Sem) fun | .tmp t => pure (tmps.getD t undef) | .cell a t => do loadVar t (← asAddr (tmps.getD a undef))).run P w = .ok cs w ∧ VRelL ok w B vs cs
 | [], vs, h => by simp only [resultsV, Option.some.injEq] at h; subst h; exact ⟨[], by simp, by simp [VRelL]⟩
 | .tmp t :: r, vs, h => by
  simp only [resultsV, Option.bind_eq_some_iff, Option.some.injEq] at h
  obtain ⟨l, hl, rfl⟩ := h
  obtain ⟨cs, hc, hr⟩ := results_rel hh ht hl
  have := evalT_rel (a := { tmps := tmps, defers := [] }) ht (.tmp t)
  simp only [evalT, Act.eval] at this
  refine ⟨tmps.getD t undef :: cs, by simp [-Array.getD_eq_getD_getElem?, hc], ?_⟩
  simp only [VRelL]
  exact ⟨_, _, rfl, this, hr⟩
 | .cell a t :: r, vs, h => by
  simp only [resultsV, Option.bind_eq_some_iff, Option.some.injEq] at h
  obtain ⟨pv, hp, v, hv, l, hl, rfl⟩ := h
  obtain ⟨cs, hc, hr⟩ := results_rel hh ht hl
  have h1 := evalT_rel (a := { tmps := tmps, defers := [] }) ht (.tmp a)
  simp only [evalT, Act.eval] at h1
  have h2 := nilCheck_rel hp h1
  obtain ⟨c, hrun, hrel⟩ := loadV_rel (P := P) hh hv h2
  refine ⟨c :: cs, ?_, by simp only [VRelL]; exact ⟨_, _, rfl, hrel, hr⟩⟩
  have hrun' : (do loadVar t (← asAddr (tmps.getD a undef)) : Sem Value).run P w = .ok c w := by
   simp only [Instr.loadAt] at hrun
   generalize tmps.getD a undef = x at hrun
   cases x with
   | pointer o =>
    cases o with
    | some o => simpa [Instr.sureAddr, asAddr] using hrun
    | none => simp [Instr.sureAddr] at hrun
   | _ => simp [Instr.sureAddr] at hrun
  simp only [List.mapM_cons, Sem.run_bind] at hrun' ⊢
  rw [hrun']
  simp [-Array.getD_eq_getD_getElem?, hc]
theorem join_rel {vs : List V} {cs : List Value} (h : VRelL ok w B vs cs) : VRel ok w B (joinV vs) (if h : cs.toArray.size = 1 then cs.toArray[0] else .tuple cs.toArray) := by
 have hl := h.length
 match vs, cs, h with
 | [v], [c], h =>
  simp only [VRelL] at h
  obtain ⟨c0, l, e, hv, _⟩ := h
  simp only [List.cons.injEq] at e
  simpa [joinV, e.1] using hv
 | [], [], h => simp only [joinV]; simp only [VRel]; exact ⟨[], by simp, h⟩
 | a :: b :: r, c :: d :: t, h => simp only [joinV]; simp only [VRel]; exact ⟨c :: d :: t, by simp, h⟩
 | [v], [], h => simp at hl
 | [v], c :: d :: t, h => simp at hl
 | [], c :: t, h => simp at hl
 | a :: b :: r, [], h => simp at hl
 | a :: b :: r, [c], h => simp at hl
theorem VRel.world (h1 : ∀ b n, ok b n → w'.heap[b]? = w.heap[b]?) (h2 : ∀ d j b, (B d j).blk = some b → w'.heap[b]? = w.heap[b]?) {v : V} {c : Value} (hv : VRel ok w B v c) : VRel ok w' B v c :=
 VRel.mono (OkLe.heap (fun _ _ h => h) h1) (fun d j => EntLe.refl _ fun b hb => by simp only [csize, h2 d j b hb]; exact Nat.le_refl _) v c hv
theorem VRelL.world (h1 : ∀ b n, ok b n → w'.heap[b]? = w.heap[b]?) (h2 : ∀ d j b, (B d j).blk = some b → w'.heap[b]? = w.heap[b]?) {v : List V} {c : List Value} (hv : VRelL ok w B v c) : VRelL ok w' B v c :=
 VRelL.mono (OkLe.heap (fun _ _ h => h) h1) (fun d j => EntLe.refl _ fun b hb => by simp only [csize, h2 d j b hb]; exact Nat.le_refl _) v c hv
theorem ORelL.world (h1 : ∀ b n, ok b n → w'.heap[b]? = w.heap[b]?) (h2 : ∀ d j b, (B d j).blk = some b → w'.heap[b]? = w.heap[b]?) {v : List V} {c : List Value} (hv : ORelL ok w B v c) : ORelL ok w' B v c :=
 ORelL.mono (OkLe.heap (fun _ _ h => h) h1) (fun d j => EntLe.refl _ fun b hb => by simp only [csize, h2 d j b hb]; exact Nat.le_refl _) v c hv
theorem HR.world (hs : w.heap.size ≤ w'.heap.size) (h1 : ∀ b n, ok b n → w'.heap[b]? = w.heap[b]?) (h2 : ∀ d j b, (B d j).blk = some b → w'.heap[b]? = w.heap[b]?) (hh : HR ok w B p h) : HR ok w' B p h where
 gl := hh.glm (fun _ _ h => h) h1
 pos := hh.pos
 blk := fun d j => by
  have hb := hh.blk d j
  have h2' : ∀ d' j' b, (B.from_ d d' j').blk = some b → w'.heap[b]? = w.heap[b]? := fun d' j' b hb => h2 (d + d') j' b hb
  revert hb
  have h2dj := h2 d j
  revert h2dj
  cases B d j with
  | out => intro _ _; trivial
  | dead => intro _ hb; exact hb
  | mp b =>
   rintro h2dj ⟨es, g1, en, cl, g2, g3⟩
   exact ⟨es, g1, en, cl, (h2dj b rfl).trans g2, g3⟩
  | it b =>
   rintro h2dj ⟨m, since, seen, last, g1, g2⟩
   refine ⟨m, since, seen, last, g1, fun d' j' hm => ?_⟩
   rcases g2 d' j' hm with g | ⟨mb, g, g3⟩
   ·exact .inl g
   ·exact .inr ⟨mb, g, (h2dj b rfl).trans g3⟩
  | row b ep esz =>
   rintro h2dj ⟨cells, flat, plain, g1, g2, g3, g4⟩
   refine ⟨cells, flat, plain, g1, g2, g3, ?_⟩
   cases b with
   | none => exact g4
   | some b =>
    obtain ⟨c, el, lo, hi, e1, e2, c1, c2, e3, e4⟩ := g4
    exact ⟨c, el, lo, hi, (h2dj b rfl).trans e1, e2, c1, c2, e3, ORelL.world h1 h2' e4⟩
  | loop l =>
   rintro h2dj ⟨fn, tmps, ps, a, c, r, pd, L, g1, g2, e2, e3, e4, e5, e6⟩
   exact ⟨fn, tmps, ps, a, c, r, pd, L, g1, (h2dj l rfl).trans g2, e2, e3, e4, VRelL.world h1 h2' e5, e6⟩
 inj := hh.inj
 lt := fun d j b hb => Nat.lt_of_lt_of_le (hh.lt d j b hb) hs
 okn := fun b n hb => ⟨Nat.lt_of_lt_of_le (hh.okn b n hb).1 hs, (hh.okn b n hb).2⟩
theorem Ext.putObj {r : Nat} {o : Obj} (hx : Ext ok B w ok' B' w') (hr : w.heap.size ≤ r) (hb : ∀ d j, (B' d j).blk ≠ some r) : Ext ok B w ok' B' (w'.putObj r o) where
 size := by rw [World.putObj_size]; exact hx.size
 os := hx.os
 tape := hx.tape
 output := hx.output
 same := fun b hlt hu => by rw [World.putObj_heap_other (by omega)]; exact hx.same b hlt hu
 okLe := fun b n hb' hlt => ⟨(hx.okLe b n hb' hlt).1, fun i hi => (cell?_of_heap (World.putObj_heap_other (by omega))).trans ((hx.okLe b n hb' hlt).2 i hi)⟩
 okOf := hx.okOf
 ent := fun d j => by
  have h1 := hx.ent d j
  revert h1
  cases hB : B d j with
  | out => intro _; trivial
  | dead => intro h1; exact h1
  | loop l => intro h1; exact h1
  | mp l => intro h1; exact h1
  | it l => intro h1; exact h1
  | row b ep esz =>
   intro h1
   rcases h1 with h1 | ⟨b', ep', esz', h1, h2⟩
   ·exact .inl h1
   ·refine .inr ⟨b', ep', esz', h1, ?_⟩
    rcases h2 with h2 | ⟨h2, h3, h4⟩
    ·exact .inl h2
    ·refine .inr ⟨h2, h3, fun b0 hb0 => ?_⟩
     have hne : b0 ≠ r := fun e => hb d j (by rw [h1, h3, hb0, e]; rfl)
     have : csize (w'.putObj r o) b0 = csize w' b0 := by simp [csize, World.putObj_heap_other hne]
     rw [this]; exact h4 b0 hb0
 new := hx.new
theorem leaves_marks {P : Program} {fn : Func} {tmps : Array Value} {R : Ending → World → Prop} {ok0 : Nat → Nat → Prop} {B0 : Bd} {w0 : World} {s : St} :
  ∀ (rs : List Nat) (w : World), rs.Nodup → (∀ r ∈ rs, w0.heap.size ≤ r ∧ w.heap[r]? = some (.deferred (some [])) ∧ (∀ d j, (B d j).blk ≠ some r) ∧ ∀ n, ¬ ok r n) →
   Ext ok0 B0 w0 ok B w → HR ok w B p s.heap → VRelL ok w B s.tmps tmps.toList →
   (∀ w', Ext ok0 B0 w0 ok B w' → HR ok w' B p s.heap → VRelL ok w' B s.tmps tmps.toList → ∃ v, (results fn tmps).run P w' = .ok v w' ∧ R (.returned v) w') →
   LeavesInM Fence.wide 0 P fn tmps R (rs.map fun r => { target := .collected r, args := #[] }) .returning w
 | [], w, _, _, hx, hh, ht, hf => hf w hx hh ht
 | r :: rs, w, hn, hr, hx, hh, ht, hf => by
  obtain ⟨g1, g2, g3, g4⟩ := hr r (by simp)
  have hne : ∀ b n, ok b n → b ≠ r := fun b n hb e => g4 n (e ▸ hb)
  have hne2 : ∀ d j b, (B d j).blk = some b → b ≠ r := fun d j b hb e => g3 d j (e ▸ hb)
  have k1 : ∀ b n, ok b n → (w.putObj r (.deferred none)).heap[b]? = w.heap[b]? := fun b n hb => World.putObj_heap_other (hne b n hb)
  have k2 : ∀ d j b, (B d j).blk = some b → (w.putObj r (.deferred none)).heap[b]? = w.heap[b]? := fun d j b hb => World.putObj_heap_other (hne2 d j b hb)
  refine ⟨by simp, .inl ⟨r, w.putObj r (.deferred none), rfl, run_takeDeferred g2, ?_⟩⟩
  rw [List.nodup_cons] at hn
  refine leaves_marks rs _ hn.2 (fun r' hr' => ?_) (hx.putObj g1 g3) (hh.world (by rw [World.putObj_size]; exact Nat.le_refl _) k1 k2) (ht.world k1 k2) hf
  obtain ⟨e1, e2, e3, e4⟩ := hr r' (by simp [hr'])
  exact ⟨e1, (World.putObj_heap_other (fun (e : r' = r) => hn.1 (e ▸ hr'))).trans e2, e3, e4⟩
def FrameOk (E : Env) : Prop := ∀ g F, E.frame g = true → E.known g = some F → ∀ args h r h', F args h = some (r, h') → h'.length = h.length ∧ ∀ d j, (∀ v ∈ args, ∀ d' j' o e, v = .pref d' j' o e → d' ≠ d ∨ j' ≠ j) → h'.get d j = h.get d j
structure FnOk (E : Env) (p : Array Oper → Bool) : Prop where
 frame : FrameOk E
 good : ∀ f fn c, E.fns f = true → E.P.funcs[f]? = some fn → fn.body = some c → goodCode p c = true ∧ fn.name ≠ "runtime.NumGoroutine"
theorem body_sound {E : Env} {rec : Rec} {m : Nat} (hS : Sound E.P p rec m) (hE : FnOk E p) {f : FuncId} {args : List V} {r : V} {h' : Heap} (hb : bodyV E rec f args h = some (r, h')) :
  CallS E.P p f args h r h' := by
 intro ok B w args' R hh ha hR
 unfold bodyV at hb
 split at hb
 ·rename_i hfn
  split at hb
  ·cases hb
  ·rename_i fn hf
   split at hb
   ·cases hb
   ·rename_i c hc
    have key : ∀ e s, (e = .normal ∨ e = .ret) → rec c { fn := f, tmps := args ++ List.replicate (fn.ntmps - args.length) .poison, heap := h } = some (e, s) →
      (resultsV E.P s fn.results.toList).map (fun l => (joinV l, s.heap)) = some (r, h') → CallsIn Fence.wide 0 E.P f args'.toArray w R := by
     intro e s he hrec hres
     simp only [Option.map_eq_some_iff, Prod.mk.injEq] at hres
     obtain ⟨l, hl, rfl, rfl⟩ := hres
     refine callsIn_of_wp_marks hf hc trivial ?_
     have hlen : args.length = args'.toArray.size := by simpa using ha.length
     have htm : VRelL ok w B (args ++ List.replicate (fn.ntmps - args.length) .poison) (args'.toArray ++ Array.replicate (fn.ntmps - args'.toArray.size) undef).toList := by
      rw [Array.toList_append, Array.toList_replicate, ← hlen]
      refine ha.append ?_
      generalize fn.ntmps - args.length = n
      induction n with
      | zero => simp [VRelL]
      | succ n ih => simp only [List.replicate_succ, VRelL]; exact ⟨_, _, rfl, trivial, ih⟩
     refine hS.code c _ e s hrec Fence.wide ⟨w.heap.size, [], false⟩ ok B w _ _ ⟨(hE.good f fn c hfn hf hc).1, .inl rfl, (fun h => by rcases h with h | h; exact absurd rfl h; cases h), ⟨hh, htm, [], List.nodup_nil, rfl, rfl, fun _ => rfl, by simp [lefts]⟩, Nat.le_refl _, ?_⟩
     intro ok' B' w' a' hx hsr hlen'
     have : LeavesInM Fence.wide 0 E.P fn a'.tmps R a'.defers .returning w' := by
      obtain ⟨rs, m1, m2, mr, _, m3⟩ := hsr.marks
      rw [m2, items_plain rs mr]
      refine leaves_marks (s := s) (lefts rs) w' m1 m3 hx hsr.heap hsr.tmps ?_
      intro w'' hx'' hh'' ht''
      obtain ⟨cs, hrun, hrel⟩ := results_rel (P := E.P) (s := s) hh'' ht'' hl
      refine ⟨_, ?_, hR ok' B' w'' _ ⟨hx'', hh'', join_rel hrel, hlen'⟩⟩
      have hrun' : (fn.results.mapM (m := Sem) fun | .tmp t => pure (a'.tmps.getD t undef) | .cell a t => do loadVar t (← asAddr (a'.tmps.getD a undef))).run E.P w'' = .ok cs.toArray w'' := by
       rw [Array.mapM_eq_mapM_toList]
       simp only [Sem.run_map, hrun, Result.andThen_ok]
      simp only [results, Sem.run_bind]
      erw [hrun']
      rfl
     rcases he with rfl | rfl <;> exact this
    split at hb
    ·rename_i s hrec
     exact key .normal s (.inl rfl) hrec hb
    ·rename_i s hrec
     exact key .ret s (.inr rfl) hrec hb
    ·cases hb
 ·cases hb
end
end Go.Sim
end
