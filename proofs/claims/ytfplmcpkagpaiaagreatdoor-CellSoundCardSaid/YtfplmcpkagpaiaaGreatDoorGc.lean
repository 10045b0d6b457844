/-
 Package procs: cut.
 Package procs: aim.
-/
import Derived.Test.YtfplmcpkagpaiaaGreatDoorGb
set_option maxRecDepth 100000
set_option maxHeartbeats 0
set_option linter.unusedSimpArgs false
set_option linter.unusedVariables false
section
namespace Go.Proofs.YtfplmcpkagpaiaaGreatDoor.Fl
open Go Go.Sim
def cutS (s : List PR × List Nat) (i : Nat) (x : Instr) : List PR × List Nat :=
 let ps := if x.op = 3 then s.1 ++ [⟨i, 0, x.arg⟩] else s.1
 (ps.set (ps.length - 1) { ps.getD (ps.length - 1) default with e := i + 1 }, s.2 ++ [ps.length - 1])
def cutN (code : List Instr) : Nat → List PR × List Nat
 | 0 => ([], [])
 | n + 1 => cutS (cutN code n) n (code.getD n default)
def cutF (code : List Instr) : List PR × List Nat := cutN code code.length
theorem cutS_enter {s : List PR × List Nat} {i : Nat} {x : Instr} (h : x.op = 3) : cutS s i x = (s.1 ++ [⟨i, i + 1, x.arg⟩], s.2 ++ [s.1.length]) := by
 simp [cutS, h, List.getD]
theorem cutS_on {q : List PR} {p : PR} {o : List Nat} {i : Nat} {x : Instr} (h : x.op ≠ 3) : cutS (q ++ [p], o) i x = (q ++ [{ p with e := i + 1 }], o ++ [q.length]) := by
 simp [cutS, h, List.getD]
abbrev cutBox (s : List PR × List Nat) : List Blk := [Blk.row [V.sref 0 1 0 s.1.length s.1.length (4, false), V.sref 0 2 0 s.2.length s.2.length (1, false), V.nilslice] 0 3 false false, Blk.row (cat ePR s.1) s.1.length 4 true true, Blk.row (cat eN s.2) s.2.length 1 true true]
abbrev cutOut (s : List PR × List Nat) : List Blk := [Blk.row [V.sref 0 1 0 s.1.length s.1.length (4, false), V.sref 0 2 0 s.2.length s.2.length (1, false), V.sref 0 3 0 s.1.length 0 (1, true)] 0 3 false false, Blk.row (cat ePR s.1) s.1.length 4 true true, Blk.row (cat eN s.2) s.2.length 1 true true, Blk.row (List.replicate s.1.length .nilslice) 0 1 true true]
abbrev cutSlots (code : List Instr) (i : Nat) : List V := [lst eInstr code, xx, V.nilptr, V.pref 0 0 0 0, xx, xx, xx, V.agg [V.nilslice, V.nilslice, V.nilslice], V.pref 0 0 0 0, lst eInstr code, ii code.length, ii i] ++ pois 58
theorem cutN_len (code : List Instr) (n : Nat) : (cutN code n).2.length = n ∧ (cutN code n).1.length ≤ n := by
 induction n with
 | zero => simp [cutN]
 | succ n ih => simp only [cutN, cutS]; split <;> simp <;> omega
theorem cutN_pos {code : List Instr} (h0 : (code.getD 0 default).op = 3) {n : Nat} (hn : 0 < n) : 0 < (cutN code n).1.length := by
 induction n with
 | zero => omega
 | succ n ih =>
  cases n with
  | zero => rw [show cutN code 1 = cutS ([], []) 0 (code.getD 0 default) from rfl, cutS_enter h0]; simp
  | succ n => have := ih (by omega); simp only [cutN, cutS] at this ⊢; split <;> simp_all
theorem cat_set_PR (qs : List PR) (c : List V) (j : Nat) (v : V) : (cat ePR qs ++ c).set (qs.length * 4 + j) v = cat ePR qs ++ c.set j v := by
 rw [List.set_append_right _ _ (by simp)]; simp
theorem flat_nils (n : Nat) : V.flatL (List.replicate n .nilslice) = true := by
 induction n with
 | zero => rfl
 | succ n ih => rw [List.replicate_succ]; simp only [V.flatL, ih]; rfl
theorem plain_nils (n : Nat) : V.plainL (List.replicate n .nilslice) = true := by
 induction n with
 | zero => rfl
 | succ n ih => rw [List.replicate_succ]; simp only [V.plainL, ih]; rfl
theorem make_nils (B : List Blk) (r : Heap) (n : Nat) (hn : n ≤ 16384) : makeSliceV Tryz.prog (B :: r) 125 (ii n) (ii n) = some (.sref 0 B.length 0 n 0 (1, true), (B ++ [.row (List.replicate n .nilslice) 0 1 true true]) :: r) := by
 unfold makeSliceV
 rw [show Tryz.prog.underlying 125 = some (.slice 23) by kernel_rfl]
 dsimp only
 rw [show zeroV Tryz.prog 23 = some .nilslice by kernel_rfl, show bytesV Tryz.prog 23 = some 24 by kernel_rfl, show sizeV Tryz.prog 23 = some 1 by kernel_rfl]
 have hc : V.cells .nilslice = [.nilslice] := rfl
 simp only [Option.bind_some, hc, newRow, rep, Int.toNat_natCast, flat_nils, plain_nils]
 rw [if_pos (by simp; omega)]
 simp [Heap.push, Heap.top, flat_nils, plain_nils]
theorem Cut_body (code : List Instr) (hl : code.length ≤ 16384) (h0 : (code.getD 0 default).op = 3) (r : Heap) : bodyV E (om E) 47 [lst eInstr code] ([] :: r) = some (.pref 0 0 0 0, cutOut (cutF code) :: r) := by
 apply bo_47
 simp (disch := omega) [if_pos, if_neg, iteK_pos, iteK_neg, Tryz.f47]
 refine loop_use (dyn := []) (fun (a : Nat) => cutSlots code a)
  (fun a => cutBox (cutN code a) :: r) (fun a => a ≤ code.length) (fun a => code.length - a) hint_47_0 (by kernel_rfl) ?_ 0 (by simp) (by simp [cutN, cutSlots, cutBox])
 rintro i hi IH
 rw [lpB_eq]
 dsimp only at hi ⊢
 obtain ⟨hn2, hn1⟩ := cutN_len code i
 by_cases hlt : i < code.length
 ·have hg : code.getD i default = code[i] := by simp [List.getD, hlt]
  have hm1 : ((i : Int) + 1) % 4294967296 = i + 1 := by omega
  have hm2 : (i : Int) % 4294967296 = i := by omega
  by_cases hop : code[i].op = 3
  ·have hnew : cutN code (i + 1) = ((cutN code i).1 ++ [⟨i, i + 1, code[i].arg⟩], (cutN code i).2 ++ [(cutN code i).1.length]) := by
    rw [cutN, hg, cutS_enter hop]
   generalize cutN code i = s at hn1 hn2 hnew ⊢
   obtain ⟨ps, os⟩ := s
   dsimp only at hn1 hn2 hnew ⊢
   simp (disch := omega) [if_pos, if_neg, iteK_pos, iteK_neg, hlt, hop, hm1, hm2]
   refine IH (i + 1) _ _ (by omega) (by omega) ?_
   rw [hnew, cat_set_PR, List.take_of_length_le (by simp)]
   simp [cutSlots, cutBox, cat_append, cat_cons]
  ·obtain ⟨qs, q, hq⟩ : ∃ qs q, (cutN code i).1 = qs ++ [q] := by
    have := cutN_pos (n := i) h0 (by
     rcases Nat.eq_zero_or_pos i with h | h
     ·subst h; rw [hg] at h0; exact absurd h0 hop
     ·exact h)
    have hne : (cutN code i).1 ≠ [] := by intro h; rw [h] at this; simp at this
    exact ⟨_, _, (List.dropLast_concat_getLast hne).symm⟩
   have hnew : cutN code (i + 1) = (qs ++ [{ q with e := i + 1 }], (cutN code i).2 ++ [qs.length]) := by
    rw [cutN, hg, show cutN code i = (qs ++ [q], (cutN code i).2) from Prod.ext hq rfl, cutS_on hop]
   generalize cutN code i = s at hn1 hn2 hnew hq ⊢
   obtain ⟨ps, os⟩ := s
   dsimp only at hn1 hn2 hnew hq ⊢
   subst hq
   rw [List.length_append, List.length_singleton] at hn1
   simp (disch := omega) [if_pos, if_neg, iteK_pos, iteK_neg, hlt, hop, hm1, hm2]
   refine IH (i + 1) _ _ (by omega) (by omega) ?_
   rw [hnew, cat_append, cat_cons, ePR_enc, cat_set_PR, List.take_of_length_le (by simp)]
   simp [cutSlots, cutBox, cat_append, cat_cons]
 ·obtain rfl : i = code.length := by omega
  simp (disch := omega) [if_pos, if_neg, iteK_pos, iteK_neg]
  rw [make_nils _ _ _ (by omega)]
  simp (disch := omega) [if_pos, if_neg, iteK_pos, iteK_neg, cutBox, cutOut, cutF]
theorem Cut_at (code : List Instr) (hl : code.length ≤ 16384) (h0 : (code.getD 0 default).op = 3) (r : Heap) : callV E (om E) 47 [lst eInstr code] ([] :: r) = some (.pref 0 0 0 0, cutOut (cutF code) :: r) := by
 rw [call_47]
 have e : V.upL 1 [lst eInstr code] = [lst eInstr code] := by simp
 rw [e, Cut_body code hl h0]
 generalize cutF code = s
 have hn : V.outL 0 (List.replicate s.1.length .nilslice) = List.replicate s.1.length .nilslice := by
  generalize s.1.length = n
  induction n with
  | zero => simp
  | succ n ih => simp [List.replicate_succ, ih]
 simp [cutOut, hn, Heap.top, Heap.setTop]
end Go.Proofs.YtfplmcpkagpaiaaGreatDoor.Fl
end
section
namespace Go.Proofs.YtfplmcpkagpaiaaGreatDoor.Fl
open Go Go.Sim
theorem getD_lt {α : Type} {l : List α} {i : Nat} {d : α} (h : i < l.length) : l.getD i d = l[i] := by simp [List.getD, h]
theorem getD_ge {α : Type} {l : List α} {i : Nat} {d : α} (h : l.length ≤ i) : l.getD i d = d := by simp [List.getD, h]
def eW : Enc Nat where
 enc n := [.int .u32 n]
 k := 1
 pos := by omega
 len := fun _ => rfl
 canon := fun _ => by simp
 flat := fun _ => by simp
 ok := fun _ => by simp
@[simp] theorem eW_k : eW.k = 1 := rfl
@[simp] theorem eW_enc (n) : eW.enc n = [.int .u32 n] := rfl
@[simp] theorem plain_eW (l : List Nat) : V.plainL (cat eW l) = true := cat_plain eW (fun _ => by simp) l
@[simp] theorem take_eW (l : List Nat) (n : Nat) : (cat eW l).take n = cat eW (l.take n) := by simpa using cat_take eW l n
@[simp] theorem cut_eW (l : List Nat) : cutCells (cat eW l) 0 l.length 1 = cat eW l := cut_all eW rfl rfl
@[simp] theorem fold_eW (l : List Nat) : V.scon (cat eW l) 0 l.length false = lst eW l := rfl
theorem eN_get {l : List Nat} {i : Nat} (h : i < l.length) : (cat eN l)[i]? = some (ii l[i]) := by
 have := cat_get eN l i 0 (by simp)
 simpa [h] using this
theorem eW_get {l : List Nat} {i : Nat} (h : i < l.length) : (cat eW l)[i]? = some (.int .u32 l[i]) := by
 have := cat_get eW l i 0 (by simp)
 simpa [h] using this
theorem ePR_get {l : List PR} {i f : Nat} (hf : f < 4) (h : i < l.length) : (cat ePR l)[i * 4 + f]? = [.int .u32 l[i].b, .int .u32 l[i].e, .int .u32 l[i].f, ii 0][f]? := by
 have := cat_get ePR l i f (by simpa using hf)
 simpa [h] using this
theorem ePR_get0 {l : List PR} {i : Nat} (h : i < l.length) : (cat ePR l)[i * 4]? = some (.int .u32 l[i].b) := ePR_get (f := 0) (by omega) h
theorem ePR_get1 {l : List PR} {i : Nat} (h : i < l.length) : (cat ePR l)[i * 4 + 1]? = some (.int .u32 l[i].e) := ePR_get (f := 1) (by omega) h
theorem ePR_get2 {l : List PR} {i : Nat} (h : i < l.length) : (cat ePR l)[i * 4 + 1 + 1]? = some (.int .u32 l[i].f) := ePR_get (f := 2) (by omega) h
theorem ePR_get3 {l : List PR} {i : Nat} (h : i < l.length) : (cat ePR l)[i * 4 + 1 + 1 + 1]? = some (ii 0) := ePR_get (f := 3) (by omega) h
def tCells (ts : List (List Nat)) : List V := ts.mapIdx fun i l => .sref 0 (i + 4) 0 l.length l.length (1, false)
def tRows (ts : List (List Nat)) : List Blk := ts.map fun l => .row (cat eW l) l.length 1 true true
@[simp] theorem tCells_length (ts) : (tCells ts).length = ts.length := by simp [tCells]
@[simp] theorem tRows_length (ts) : (tRows ts).length = ts.length := by simp [tRows]
theorem tCells_get {ts : List (List Nat)} {p : Nat} (h : p < ts.length) : (tCells ts)[p]? = some (.sref 0 (p + 4) 0 ts[p].length ts[p].length (1, false)) := by
 simp [tCells, h]
theorem tRows_get {ts : List (List Nat)} {p : Nat} (h : p < ts.length) : (tRows ts)[p]? = some (.row (cat eW ts[p]) ts[p].length 1 true true) := by
 simp [tRows, h]
theorem tRowsA_get {ts : List (List Nat)} {p : Nat} {y : List Blk} (h : p < ts.length) : (tRows ts ++ y)[p]? = some (.row (cat eW ts[p]) ts[p].length 1 true true) := by
 rw [List.getElem?_append_left (by simpa using h), tRows_get h]
theorem tRowsA_end {ts : List (List Nat)} {x : Blk} : (tRows ts ++ [x])[ts.length]? = some x := by
 rw [List.getElem?_append_right (by simp)]; simp
theorem tRowsA_set {ts : List (List Nat)} {p : Nat} {y : List Blk} {b : Blk} (h : p < ts.length) : (tRows ts ++ y).set p b = (tRows ts).set p b ++ y := List.set_append_left _ _ (by simpa using h)
theorem tCells_set {ts : List (List Nat)} {p : Nat} (l : List Nat) (h : p < ts.length) : (tCells ts).set p (.sref 0 (p + 4) 0 l.length l.length (1, false)) = tCells (ts.set p l) := by
 apply List.ext_getElem?
 intro i
 simp only [tCells, List.getElem?_set, List.length_mapIdx, List.getElem?_mapIdx]
 by_cases hi : p = i
 ·subst hi; simp [h]
 ·simp [hi]
theorem tRows_set {ts : List (List Nat)} {p : Nat} (l : List Nat) : (tRows ts).set p (.row (cat eW l) l.length 1 true true) = tRows (ts.set p l) := by
 simp [tRows, List.map_set]
theorem settleL_ids (m : Nat) (H : Heap) : ∀ l : List V, (∀ x ∈ l, ∃ j o n e q, j < m ∧ x = V.sref 0 j o n e q) → V.settleL m H l = l
 | [], _ => by simp
 | v :: l, h => by
  obtain ⟨j, o, n, e, q, hj, rfl⟩ := h v (by simp)
  have hb : Nat.ble m j = false := by
   cases hc : Nat.ble m j with
   | false => rfl
   | true => exact absurd (Nat.le_of_ble_eq_true hc) (by omega)
  simp [settleL_ids m H l (fun x hx => h x (List.mem_cons_of_mem _ hx)), hb]
theorem tCells_low {ts : List (List Nat)} : ∀ x ∈ tCells ts, ∃ j o n e q, j < ts.length + 1 + 1 + 1 + 1 ∧ x = V.sref 0 j o n e q := by
 intro x hx
 simp only [tCells, List.mem_mapIdx] at hx
 obtain ⟨i, hi, rfl⟩ := hx
 exact ⟨_, _, _, _, _, by omega, rfl⟩
theorem settle_tset {ts : List (List Nat)} {p : Nat} (H : Heap) (a b : Nat) (q) (h : p < ts.length) : V.settleL (ts.length + 1 + 1 + 1 + 1) H ((tCells ts).set p (.sref 0 (p + 4) 0 a b q)) = (tCells ts).set p (.sref 0 (p + 4) 0 a b q) := by
 refine settleL_ids _ _ _ (fun x hx => ?_)
 rcases List.mem_or_eq_of_mem_set hx with h1 | h1
 ·exact tCells_low x h1
 ·exact ⟨_, _, _, _, _, by omega, h1⟩
theorem settle_trows (ts : List (List Nat)) (m : Nat) (H : Heap) : (tRows ts).map (settleBlk m H) = tRows ts := by
 simp [tRows]
theorem take_trows {ts : List (List Nat)} {p : Nat} {b x : Blk} : List.take ts.length ((tRows ts).set p b ++ [x]) = (tRows ts).set p b := by
 rw [List.take_append_of_le_length (by simp), List.take_of_length_le (by simp)]
abbrev aimBlk (s : List PR × List Nat) (ts : List (List Nat)) : List Blk :=
 Blk.row [V.sref 0 1 0 s.1.length s.1.length (4, false), V.sref 0 2 0 s.2.length s.2.length (1, false), V.sref 0 3 0 s.1.length 0 (1, true)] 0 3 false false :: Blk.row (cat ePR s.1) s.1.length 4 true true :: Blk.row (cat eN s.2) s.2.length 1 true true :: Blk.row (tCells ts) 0 1 false false :: tRows ts
theorem promCells_some (j ep esz : Nat) (h : Heap) (cells : List V) (ep' esz' f p) (hb : h.get 0 j = some (.row cells ep' esz' f p)) (hc : ∀ x ∈ cells, ∃ a b c d e g, x = .sref a b c d e g) : ∀ n o, promCells j ep esz o n h = some h
 | 0, o => rfl
 | n + 1, o => by
  have : promCell j ep o esz h = some h := by
   unfold promCell
   rw [hb]
   dsimp only
   cases hx : cells[o]? with
   | none => rfl
   | some x =>
    obtain ⟨a, b, c, d, e, g, rfl⟩ := hc x (List.mem_of_getElem? hx)
    rfl
  rw [promCells, this, Option.bind_some, promCells_some j ep esz h cells ep' esz' f p hb hc n (o + 1)]
def promX (v : Option V) (esz : Nat) (h : Heap) : Option Heap :=
 match v with
 | some (.sref 0 j2 o2 len2 ep2 _) => if len2 = 0 then some h else promCells j2 ep2 esz o2 len2 h
 | _ => some h
def promY (b : Option Blk) (off0 ep off esz : Nat) (h : Heap) : Option Heap :=
 match b with
 | some (.row cells ep' _ _ _) => if ep = ep' then promX cells[off0 + off]? esz h else none
 | _ => none
theorem promAll_pref (j off0 ep off esz : Nat) (h : Heap) : promAll (.pref 0 j off0 ep) off esz h = promY (h.get 0 j) off0 ep off esz h := rfl
theorem promY_row (cells : List V) (ep' esz' f p off0 ep off esz h) : promY (some (.row cells ep' esz' f p)) off0 ep off esz h = if ep = ep' then promX cells[off0 + off]? esz h else none := rfl
theorem promX_sref (j2 o2 len2 ep2 q esz h) : promX (some (.sref 0 j2 o2 len2 ep2 q)) esz h = if len2 = 0 then some h else promCells j2 ep2 esz o2 len2 h := rfl
theorem promAll_done (s : List PR × List Nat) (ts : List (List Nat)) (r : Heap) : promAll (.pref 0 0 0 0) 2 1 (aimBlk s ts :: r) = some (aimBlk s ts :: r) := by
 rw [promAll_pref, show Heap.get (aimBlk s ts :: r) 0 0 = some (.row [V.sref 0 1 0 s.1.length s.1.length (4, false), V.sref 0 2 0 s.2.length s.2.length (1, false), V.sref 0 3 0 s.1.length 0 (1, true)] 0 3 false false) from rfl]
 rw [promY_row, if_pos rfl, show ([V.sref 0 1 0 s.1.length s.1.length (4, false), V.sref 0 2 0 s.2.length s.2.length (1, false), V.sref 0 3 0 s.1.length 0 (1, true)])[0 + 2]? = some (V.sref 0 3 0 s.1.length 0 (1, true)) from rfl, promX_sref]
 split
 ·rfl
 ·refine promCells_some 3 0 1 _ (tCells ts) 0 1 false false rfl (fun x hx => ?_) _ _
  simp only [tCells, List.mem_mapIdx] at hx
  obtain ⟨i, hi, rfl⟩ := hx
  exact ⟨_, _, _, _, _, _, rfl⟩
theorem promCells_nils (a0 a1 a2 : Blk) (r : Heap) : ∀ n o, promCells 3 0 1 o (n + 1) ((a0 :: a1 :: a2 :: .row (tCells (List.replicate o []) ++ List.replicate (n + 1) .nilslice) 0 1 (o == 0) (o == 0) :: tRows (List.replicate o [])) :: r) =
  some ((a0 :: a1 :: a2 :: .row (tCells (List.replicate (o + n + 1) [])) 0 1 false false :: tRows (List.replicate (o + n + 1) [])) :: r) := by
 have step : ∀ n o, promCell 3 0 o 1 ((a0 :: a1 :: a2 :: .row (tCells (List.replicate o []) ++ List.replicate (n + 1) .nilslice) 0 1 (o == 0) (o == 0) :: tRows (List.replicate o [])) :: r) =
   some ((a0 :: a1 :: a2 :: .row (tCells (List.replicate (o + 1) []) ++ List.replicate n .nilslice) 0 1 false false :: tRows (List.replicate (o + 1) [])) :: r) := by
  intro n o
  unfold promCell
  have hc : (tCells (List.replicate o []) ++ List.replicate (n + 1) V.nilslice)[o]? = some .nilslice := by
   rw [List.getElem?_append_right (by simp)]; simp [List.replicate_succ]
  simp only [Heap.get, List.getElem?_cons_zero, Option.bind_some, List.getElem?_cons_succ, hc, if_true]
  have ht : tCells (List.replicate (o + 1) []) = tCells (List.replicate o []) ++ [.sref 0 (o + 4) 0 0 0 (1, false)] := by
   rw [List.replicate_succ']; simp [tCells, List.mapIdx_concat]
  have hr : tRows (List.replicate (o + 1) []) = tRows (List.replicate o []) ++ [.row [] 0 1 true true] := by
   rw [List.replicate_succ']; simp [tRows]
  rw [ht, hr]
  simp [Heap.push, Heap.set, Heap.top, Heap.setTop, List.set_append_right, List.replicate_succ]
 intro n
 induction n with
 | zero =>
  intro o
  rw [promCells, step 0 o, Option.bind_some, promCells]
  simp
 | succ n ih =>
  intro o
  rw [promCells, step (n + 1) o, Option.bind_some]
  have := ih (o + 1)
  have e : (o + 1 == 0) = false := by simp
  rw [e] at this
  rw [this, show o + 1 + n + 1 = o + (n + 1) + 1 by omega]
theorem promAll_nils (s : List PR × List Nat) (hs : 0 < s.1.length) (r : Heap) : promAll (.pref 0 0 0 0) 2 1 (cutOut s :: r) = some (aimBlk s (List.replicate s.1.length []) :: r) := by
 rw [promAll_pref, show Heap.get (cutOut s :: r) 0 0 = some (.row [V.sref 0 1 0 s.1.length s.1.length (4, false), V.sref 0 2 0 s.2.length s.2.length (1, false), V.sref 0 3 0 s.1.length 0 (1, true)] 0 3 false false) from rfl]
 rw [promY_row, if_pos rfl, show ([V.sref 0 1 0 s.1.length s.1.length (4, false), V.sref 0 2 0 s.2.length s.2.length (1, false), V.sref 0 3 0 s.1.length 0 (1, true)])[0 + 2]? = some (V.sref 0 3 0 s.1.length 0 (1, true)) from rfl, promX_sref]
 rw [if_neg (by omega)]
 obtain ⟨n, hn⟩ : ∃ n, s.1.length = n + 1 := ⟨s.1.length - 1, by omega⟩
 have := promCells_nils (.row [V.sref 0 1 0 s.1.length s.1.length (4, false), V.sref 0 2 0 s.2.length s.2.length (1, false), V.sref 0 3 0 s.1.length 0 (1, true)] 0 3 false false) (.row (cat ePR s.1) s.1.length 4 true true) (.row (cat eN s.2) s.2.length 1 true true) r n 0
 simp only [Nat.zero_add, ← hn, List.replicate_zero, show tCells [] = [] from rfl, show tRows [] = [] from rfl, List.nil_append] at this
 exact this
def tgtN (s : List PR × List Nat) (jumps : List Nat) : Nat → List (List Nat)
 | 0 => List.replicate s.1.length []
 | n + 1 => (tgtN s jumps n).set (s.2.getD (jumps.getD n 0) 0) ((tgtN s jumps n).getD (s.2.getD (jumps.getD n 0) 0) [] ++ [jumps.getD n 0])
def badJ (s : List PR × List Nat) (jumps : List Nat) (i : Nat) : Prop :=
 (0 < i ∧ jumps.getD i 0 ≤ jumps.getD (i - 1) 0) ∨ s.2.length ≤ jumps.getD i 0 ∨ insideF (s.1.getD (s.2.getD (jumps.getD i 0) 0) default) (jumps.getD i 0) = false
theorem tgtN_len (s jumps n) : (tgtN s jumps n).length = s.1.length := by
 induction n with
 | zero => simp [tgtN]
 | succ n ih => simp [tgtN, ih]
theorem tgtN_le (s jumps n) : ∀ l ∈ tgtN s jumps n, l.length ≤ n := by
 induction n with
 | zero => intro l hl; simp [tgtN] at hl; simp [hl.2]
 | succ n ih =>
  intro l hl
  rw [tgtN] at hl
  rcases List.mem_or_eq_of_mem_set hl with h | h
  ·exact Nat.le_succ_of_le (ih l h)
  ·subst h
   simp only [List.length_append, List.length_singleton]
   have : ((tgtN s jumps n).getD (s.2.getD (jumps.getD n 0) 0) []).length ≤ n := by
    by_cases hp : s.2.getD (jumps.getD n 0) 0 < (tgtN s jumps n).length
    ·rw [getD_lt hp]; exact ih _ (List.getElem_mem hp)
    ·rw [getD_ge (by omega)]; simp
   omega
abbrev aimSlots (jumps : List Nat) (i : Nat) : List V := [V.pref 0 0 0 0, lst eW jumps, xx, xx, xx, xx, xx, xx, lst eW jumps, ii jumps.length, ii i] ++ pois 73
theorem Aim (s : List PR × List Nat) (jumps : List Nat) (k : Nat) (hk : k ≤ jumps.length) (hs : 0 < s.1.length) (hs1 : s.1.length ≤ 16384) (hs2 : s.2.length ≤ 16384) (ho : ∀ p ∈ s.2, p < s.1.length) (hj : jumps.length ≤ 35184372087808) (hjf : ∀ t ∈ jumps, t < 4294967296)
  (hb : ∀ i, i < k → ¬ badJ s jumps i) (hbk : k < jumps.length → badJ s jumps k) : bodyV E (om E) 49 [.pref 0 0 0 0, lst eW jumps] [cutOut s] = some (.tuple [ii (if k < jumps.length then k else 0), ii (if k < jumps.length then 134 else 0)], [aimBlk s (tgtN s jumps k)]) := by
 apply bo_49
 simp (disch := omega) [if_pos, if_neg, iteK_pos, iteK_neg, Tryz.f49]
 refine loop_use (dyn := [6]) (fun (a : Nat) => aimSlots jumps a)
  (fun a => [aimBlk s (tgtN s jumps a)]) (fun a => a ≤ k) (fun a => k - a) hint_49_0 (by kernel_rfl) ?_ 0 (by simp) (by simp only [aimSlots, tgtN]; simp [promAll_nils s hs])
 rintro i hi IH
 rw [lpB_eq]
 by_cases hik : i < k
 ·have hlt : i < jumps.length := by omega
  have hbi := hb i hik
  have hg : jumps.getD i 0 = jumps[i] := getD_lt hlt
  have hnew : tgtN s jumps (i + 1) = (tgtN s jumps i).set (s.2.getD (jumps.getD i 0) 0) ((tgtN s jumps i).getD (s.2.getD (jumps.getD i 0) 0) [] ++ [jumps.getD i 0]) := rfl
  have hlen := tgtN_len s jumps i
  have hle := tgtN_le s jumps i
  generalize tgtN s jumps i = ts at hnew hlen hle ⊢
  unfold badJ at hbi
  rw [hg] at hbi hnew
  simp only [not_or, not_and, Nat.not_le] at hbi
  obtain ⟨b1, b2, b3⟩ := hbi
  have hp1 : s.2[jumps[i]] < s.1.length := ho _ (List.getElem_mem b2)
  have hp2 : s.2[jumps[i]] < ts.length := by omega
  rw [getD_lt b2] at b3 hnew
  rw [getD_lt hp1] at b3
  rw [getD_lt hp2] at hnew
  have hl := hle _ (List.getElem_mem hp2)
  by_cases h0 : 0 < i
  ·have b1' := b1 h0
   rw [getD_lt (show i - 1 < jumps.length by omega)] at b1'
   simp (disch := omega) [if_pos, if_neg, iteK_pos, iteK_neg, hlt, h0, b1', b2, PInside, b3, tCells_get, tRowsA_get, tRowsA_end, tRowsA_set, settle_tset, settle_trows, take_trows, hp1, hp2, eN_get, ePR_get0, ePR_get1, ePR_get2, ePR_get3]
   rw [iteK_pos (by kernel_rfl)]
   simp (disch := omega) [if_pos, if_neg, iteK_pos, iteK_neg, hlt, h0, b1', b2, PInside, b3, tCells_get, tRowsA_get, tRowsA_end, tRowsA_set, settle_tset, settle_trows, take_trows, hp1, hp2, eN_get, ePR_get0, ePR_get1, ePR_get2, ePR_get3]
   refine IH (i + 1) _ _ (by omega) (by omega) ?_
   have e1 := tCells_set (ts[s.2[jumps[i]]] ++ [jumps[i]]) hp2
   have e2 := tRows_set (ts := ts) (p := s.2[jumps[i]]) (ts[s.2[jumps[i]]] ++ [jumps[i]])
   rw [List.length_append, List.length_singleton] at e1 e2
   rw [cat_append, show cat eW [jumps[i]] = [.int .u32 jumps[i]] from rfl] at e2
   rw [hnew, e1, e2]
   simp [aimSlots, promAll_done]
  ·obtain rfl : i = 0 := by omega
   simp (disch := omega) [if_pos, if_neg, iteK_pos, iteK_neg, hlt, b2, PInside, b3, tCells_get, tRowsA_get, tRowsA_end, tRowsA_set, settle_tset, settle_trows, take_trows, hp1, hp2, eN_get, ePR_get0, ePR_get1, ePR_get2, ePR_get3]
   rw [iteK_pos (by kernel_rfl)]
   simp (disch := omega) [if_pos, if_neg, iteK_pos, iteK_neg, hlt, b2, PInside, b3, tCells_get, tRowsA_get, tRowsA_end, tRowsA_set, settle_tset, settle_trows, take_trows, hp1, hp2, eN_get, ePR_get0, ePR_get1, ePR_get2, ePR_get3]
   refine IH (0 + 1) _ _ (by omega) (by omega) ?_
   have e1 := tCells_set (ts[s.2[jumps[0]]] ++ [jumps[0]]) hp2
   have e2 := tRows_set (ts := ts) (p := s.2[jumps[0]]) (ts[s.2[jumps[0]]] ++ [jumps[0]])
   rw [List.length_append, List.length_singleton] at e1 e2
   rw [cat_append, show cat eW [jumps[0]] = [.int .u32 jumps[0]] from rfl] at e2
   rw [hnew, e1, e2]
   simp [aimSlots, promAll_done]
 ·obtain rfl : i = k := by omega
  by_cases hlt : i < jumps.length
  ·have hbi := hbk hlt
   have htt := hjf _ (List.getElem_mem hlt)
   have hg : jumps.getD i 0 = jumps[i] := getD_lt hlt
   have hlen := tgtN_len s jumps i
   generalize tgtN s jumps i = ts at hlen ⊢
   unfold badJ at hbi
   rw [hg] at hbi
   by_cases c1 : 0 < i ∧ jumps[i] ≤ jumps.getD (i - 1) 0
   ·obtain ⟨h0, c1⟩ := c1
    rw [getD_lt (show i - 1 < jumps.length by omega)] at c1
    simp (disch := omega) [if_pos, if_neg, iteK_pos, iteK_neg, hlt, h0, c1]
   ·by_cases c2 : s.2.length ≤ jumps[i]
    ·by_cases h0 : 0 < i
     ·have c1' : ¬ jumps[i] ≤ jumps.getD (i - 1) 0 := fun h => c1 ⟨h0, h⟩
      rw [getD_lt (show i - 1 < jumps.length by omega)] at c1'
      simp (disch := omega) [if_pos, if_neg, iteK_pos, iteK_neg, hlt, h0, c1', c2]
     ·obtain rfl : i = 0 := by omega
      simp (disch := omega) [if_pos, if_neg, iteK_pos, iteK_neg, hlt, c2]
    ·have c2' : jumps[i] < s.2.length := by omega
     have hp1 : s.2[jumps[i]] < s.1.length := ho _ (List.getElem_mem c2')
     have c3 : insideF (s.1.getD (s.2.getD jumps[i] 0) default) jumps[i] = false := by
      rcases hbi with h | h | h
      ·exact absurd h c1
      ·exact absurd h c2
      ·exact h
     rw [getD_lt c2', getD_lt hp1] at c3
     by_cases h0 : 0 < i
     ·have c1' : ¬ jumps[i] ≤ jumps.getD (i - 1) 0 := fun h => c1 ⟨h0, h⟩
      rw [getD_lt (show i - 1 < jumps.length by omega)] at c1'
      simp (disch := omega) [if_pos, if_neg, iteK_pos, iteK_neg, hlt, h0, c1', c2', PInside, c3, hp1, eN_get, ePR_get0, ePR_get1, ePR_get2, ePR_get3]
     ·obtain rfl : i = 0 := by omega
      simp (disch := omega) [if_pos, if_neg, iteK_pos, iteK_neg, hlt, c2', PInside, c3, hp1, eN_get, ePR_get0, ePR_get1, ePR_get2, ePR_get3]
  ·obtain rfl : i = jumps.length := by omega
   simp (disch := omega) [if_pos, if_neg, iteK_pos, iteK_neg]
end Go.Proofs.YtfplmcpkagpaiaaGreatDoor.Fl
end
