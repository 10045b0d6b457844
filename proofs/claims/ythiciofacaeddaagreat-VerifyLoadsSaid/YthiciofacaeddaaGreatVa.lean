/-
 Package verify: copied, as memory of its own; the image of flow's code.
 verify.Take, as memory of its own.
-/
import Derived.Test.YthiciofacaeddaaGreatIe
import Derived.Test.YthiciofacaeddaaGreatFe
import Derived.Test.YthiciofacaeddaaGreatFg
import Derived.Test.YthiciofacaeddaaGreatMe
import Derived.Test.YthiciofacaeddaaGreatIf
section
namespace Go.Proofs.YthiciofacaeddaaGreat
open Go Go.Sim
set_option maxRecDepth 100000
set_option maxHeartbeats 0
set_option linter.unusedSimpArgs false
set_option linter.unusedVariables false

def fl (i : Instr) : Fl.Instr := ⟨i.op.toNat, i.arg.toNat⟩
theorem lst_fl (l : List Instr) : lst eInstr l = lst Fl.eInstr (l.map fl) := by
 have : cat eInstr l = cat Fl.eInstr (l.map fl) := by
  induction l with
  | nil => rfl
  | cons x l ih => rw [List.map_cons, cat_cons, cat_cons, ih]; rfl
 unfold lst
 rw [this, List.length_map]
theorem ws_fl (l : List UInt32) : ws l = lst Fl.eW (l.map UInt32.toNat) := by
 have : cat eU32 l = cat Fl.eW (l.map UInt32.toNat) := by
  induction l with
  | nil => rfl
  | cons x l ih => rw [List.map_cons, cat_cons, cat_cons, ih]; rfl
 show lst eU32 l = _
 unfold lst
 rw [this, List.length_map]
theorem isOp_fl (n : Nat) : Fl.isOp n = isOp n := rfl
theorem rowOf_fl (n : Nat) : (Fl.rowOf n).word = (rowOf n).word ∧ (Fl.rowOf n).most = (rowOf n).most := by
 unfold Fl.rowOf rowOf
 rw [isOp_fl]
 cases isOp n with
 | false => exact ⟨rfl, rfl⟩
 | true =>
  rw [if_pos rfl, if_pos rfl]
  generalize pureV E (ev E 60) 154 false [.int .u8 n] = o
  unfold Fl.rowFrom rowFrom
  split <;> simp_all
theorem insBad_fl (i : Instr) : Fl.insBad (fl i) = insBad i := by
 unfold Fl.insBad insBad
 rw [isOp_fl, ← Fl.most_eq, (rowOf_fl _).2]
 rfl
def Own {α : Type} (H : List Blk) (v : V) (e : Enc α) (l : List α) : Prop := (l = [] ∧ v = .scon [] 0 0 false) ∨ (∃ j ep, v = .sref 0 j 0 l.length ep (e.k, false) ∧ H[j]? = some (.row (cat e l) ep e.k true true))
section
variable {α : Type} {H : List Blk} {v : V} {e : Enc α} {l : List α}
theorem Own.cell (h : Own H v e l) : V.cell1 v = true := by rcases h with ⟨_, rfl⟩ | ⟨j, ep, rfl, _⟩ <;> simp
theorem Own.strip (h : Own H v e l) : V.strip v = v := by rcases h with ⟨_, rfl⟩ | ⟨j, ep, rfl, _⟩ <;> simp
theorem Own.cells (h : Own H v e l) : V.cells v = [v] := by rcases h with ⟨_, rfl⟩ | ⟨j, ep, rfl, _⟩ <;> simp
theorem Own.more (h : Own H v e l) (Y : List Blk) : Own (H ++ Y) v e l := by
 rcases h with ⟨h1, h2⟩ | ⟨j, ep, h1, h2⟩
 ·exact .inl ⟨h1, h2⟩
 ·refine .inr ⟨j, ep, h1, ?_⟩
  have := (List.getElem?_eq_some_iff.1 h2).1
  rw [List.getElem?_append_left this, h2]
theorem Own.out (h : Own H v e l) (B : List Blk) : Own (B ++ H.map (outBlk B.length)) (V.out B.length v) e l := by
 rcases h with ⟨h1, rfl⟩ | ⟨j, ep, rfl, h2⟩
 ·exact .inl ⟨h1, by simp⟩
 ·refine .inr ⟨B.length + j, ep, by simp, ?_⟩
  rw [List.getElem?_append_right (by omega), Nat.add_sub_cancel_left, List.getElem?_map, h2]
  simp
theorem Own.stripB (h : Own H v e l) : Own (H.map stripBlk) v e l := by
 rcases h with ⟨h1, rfl⟩ | ⟨j, ep, rfl, h2⟩
 ·exact .inl ⟨h1, rfl⟩
 ·refine .inr ⟨j, ep, rfl, ?_⟩
  rw [List.getElem?_map, h2]
  simp
theorem Own.view (h : Own H v e l) (n : Nat) (r : Heap) : V.view (n + 1) (H :: r) v = some (lst e l) := by
 rcases h with ⟨rfl, rfl⟩ | ⟨j, ep, rfl, h2⟩
 ·simp
 ·simp [h2, cut_all e rfl rfl]
  rfl
theorem Own.arg (h : Own H v e l) (n : Nat) (r : Heap) : (if V.flat v = true then some v else V.view (n + 1) (H :: r) v) = some (lst e l) := by
 rcases h with ⟨rfl, rfl⟩ | h2
 ·simp
 ·have hv := Own.view (.inr h2 : Own H v e l) n r
  obtain ⟨j, ep, rfl, h2⟩ := h2
  rw [hv]; simp
end
def Plain (X : List Blk) : Prop := ∀ b ∈ X, ∃ c ep esz, b = .row c ep esz true true
theorem Plain.out {X : List Blk} (h : Plain X) (n : Nat) : X.map (outBlk n) = X := by
 rw [List.map_congr_left (g := id)]
 ·simp
 ·intro b hb
  obtain ⟨c, ep, esz, rfl⟩ := h b hb
  simp
theorem Plain.strip {X : List Blk} (h : Plain X) : X.map stripBlk = X := by
 rw [List.map_congr_left (g := id)]
 ·simp
 ·intro b hb
  obtain ⟨c, ep, esz, rfl⟩ := h b hb
  simp
theorem VCopied_body (x : Img) (h1 : x.code.length ≤ 17592186044416) (h2 : x.jumps.length ≤ 35184372088832) (h3 : x.data.length ≤ 140737488355328) (h4 : x.names.length ≤ 5864062014805) : ∃ vc vj vd vn X, bodyV E (om E) 57 [imgV x] [[]] = some (.agg [vc, vj, vd, w32 x.zero.toNat, w32 x.stack.toNat, vn], [X]) ∧
  Own X vc eInstr x.code ∧ Own X vj eU32 x.jumps ∧ Own X vd eU8 x.data ∧ Own X vn eExport x.names := by
 have k1 : ∀ h, cloneWL 17592186044416 2 [lst eInstr x.code] h = _ := fun h => clone_lst eInstr x.code h 2 rfl
 have k2 : ∀ h, cloneWL 35184372088832 1 [ws x.jumps] h = _ := fun h => clone_lst eU32 x.jumps h 1 rfl
 have k3 : ∀ h, cloneWL 140737488355328 1 [bs x.data] h = _ := fun h => clone_lst eU8 x.data h 1 rfl
 have k4 : ∀ h, cloneWL 5864062014805 2 [lst eExport x.names] h = _ := fun h => clone_lst eExport x.names h 2 rfl
 have n1 : ¬ 17592186044416 < x.code.length := by omega
 have n2 : ¬ 35184372088832 < x.jumps.length := by omega
 have n3 : ¬ 140737488355328 < x.data.length := by omega
 have n4 : ¬ 5864062014805 < x.names.length := by omega
 by_cases c1 : x.code = [] <;> by_cases c2 : x.jumps = [] <;> by_cases c3 : x.data = [] <;> by_cases c4 : x.names = [] <;> refine ⟨?_, ?_, ?_, ?_, ?_, ?_, ?_, ?_, ?_, ?_⟩
 any_goals
  apply bo_57
  simp (disch := omega) [if_pos, if_neg, iteK_pos, iteK_neg, Tryz.f57, k1, k2, k3, k4, n1, n2, n3, n4, c1, c2, c3, c4]
  refine ⟨⟨?_, ?_, ?_, ?_⟩, ?_⟩ <;> rfl
 all_goals
  first | exact .inl ⟨by assumption, rfl⟩ | exact .inr ⟨_, _, rfl, rfl⟩
end Go.Proofs.YthiciofacaeddaaGreat
end
section
namespace Go.Proofs.YthiciofacaeddaaGreat
open Go Go.Sim
set_option maxRecDepth 100000
set_option maxHeartbeats 0
set_option linter.unusedSimpArgs false
set_option linter.unusedVariables false

abbrev cF (x : Img) : List Fl.Instr := x.code.map fl
abbrev jF (x : Img) : List Nat := x.jumps.map UInt32.toNat
structure Taken (x : Img) : Prop where
 chk : checkP x = 0
 find : Fl.FindOk (cF x) (jF x)
 names : Fl.NamesAt (cF x) x.names
 all : Fl.AllOk (cF x) (jF x)
theorem fits_fl {x : Img} (h : checkP x = 0) : Fl.CodeFits (cF x) (jF x) := by
 obtain ⟨c1, c2, c3, c4, c5, c6, c7⟩ := check_ok h
 refine ⟨fun i hi => ?_, by simp [jF]; omega, fun t ht => ?_⟩
 ·obtain ⟨y, _, rfl⟩ := List.mem_map.1 hi
  exact ⟨y.op.toNat_lt, y.arg.toNat_lt⟩
 ·obtain ⟨y, _, rfl⟩ := List.mem_map.1 ht
  exact y.toNat_lt
theorem enc_fl {x : Img} (h : checkP x = 0) : Fl.encodes (cF x) := by
 obtain ⟨c1, c2, c3, c4, c5, c6, c7⟩ := check_ok h
 refine ⟨by simp [cF]; omega, fun i hi => ?_⟩
 obtain ⟨y, hy, rfl⟩ := List.mem_map.1 hi
 rw [insBad_fl]
 exact code_all h y hy
noncomputable def digestP (x : Img) : Nat := (adler (encP x)).toNat * 4294967296 + (encP x).length
noncomputable def bitsI (x : Img) : Nat := bitsP (x.data.length + x.zero.toNat + x.stack.toNat) 8
abbrev tsF (x : Img) : List (List Nat) := Fl.tgtN (Fl.cutF (cF x)) (jF x) (jF x).length
noncomputable abbrev knownC (x : Img) : List V := [Fl.procsV (Fl.cutF (cF x)) (tsF x), lst Fl.eI (Fl.needF (cF x) (jF x)), lst eInstr x.code, lst Fl.eI (Fl.dsF (cF x) (jF x)),
 lst eInstr x.code, ws x.jumps, bs x.data, w32 x.zero.toNat, w32 x.stack.toNat, lst eExport x.names, ii (bitsI x), w64 (digestP x)]
noncomputable abbrev modV (x : Img) : V := .pcon [.pcon (knownC x) 0] 0
theorem enc_small {x : Img} (h : checkP x = 0) : 64 ≤ (encP x).length ∧ (encP x).length < 1048576 := by
 have s := sizes h
 obtain ⟨c1, c2, c3, c4, c5, c6, c7⟩ := check_ok h
 have hl := encF_len x
 have he : (encP x).length = (encF x).length := sealP_length _ (by omega)
 have h1 := s.a
 have h2 := s.b
 have h3 := s.c
 have h4 := s.d
 omega
theorem tgtsF_len (x : Img) : (tsF x).length = (Fl.cutF (cF x)).1.length := Fl.tgtN_len _ _ _
noncomputable abbrev knownU (x : Img) : List V := [Fl.procsU (Fl.cutF (cF x)) (tsF x), lst Fl.eI (Fl.needF (cF x) (jF x)), lst eInstr x.code, .scon (cat Fl.eI (Fl.dsF (cF x) (jF x))) 0 (Fl.dsF (cF x) (jF x)).length true,
 lst eInstr x.code, ws x.jumps, bs x.data, w32 x.zero.toNat, w32 x.stack.toNat, lst eExport x.names, ii (bitsI x), w64 (digestP x)]
noncomputable abbrev modU (x : Img) : V := .pcon [.pcon (knownU x) 0] 0
theorem canon_modU (x : Img) : V.canon (modU x) = modV x := by
 have h1 := Fl.canon_procsU (Fl.cutF (cF x)) (tsF x)
 have h2 : V.canon (.scon (cat Fl.eI (Fl.dsF (cF x) (jF x))) 0 (Fl.dsF (cF x) (jF x)).length true) = lst Fl.eI (Fl.dsF (cF x) (jF x)) := by simp
 unfold modU modV knownU knownC
 simp only [canon_pcon, V.canonL, h1, h2, lst_canon, canon_int]
theorem copied_at (x : Img) (h1 : x.code.length ≤ 17592186044416) (h2 : x.jumps.length ≤ 35184372088832) (h3 : x.data.length ≤ 140737488355328) (h4 : x.names.length ≤ 5864062014805) {a : V} {B : List Blk} {r : Heap} (hf : V.flat a = true) (hv : viewArgs (B :: r) [a] = some [imgV x]) :
  ∃ vc vj vd vn X, callV E (om E) 57 [a] (B :: r) = some (.agg [vc, vj, vd, w32 x.zero.toNat, w32 x.stack.toNat, vn], (B ++ X) :: r) ∧ (∀ B' Y, B'.length = B.length → Own (B' ++ (X ++ Y)) vc eInstr x.code ∧ Own (B' ++ (X ++ Y)) vj eU32 x.jumps ∧ Own (B' ++ (X ++ Y)) vd eU8 x.data ∧ Own (B' ++ (X ++ Y)) vn eExport x.names) := by
 obtain ⟨vc, vj, vd, vn, X, hb, o1, o2, o3, o4⟩ := VCopied_body x h1 h2 h3 h4
 refine ⟨V.out B.length vc, V.out B.length vj, V.out B.length vd, V.out B.length vn, X.map (outBlk B.length), ?_, fun B' Y hB => ?_⟩
 ·rw [call_57, hv]
  simp [hb, hf, Heap.top, Heap.setTop]
 ·have g1 := (o1.out B').more Y
  have g2 := (o2.out B').more Y
  have g3 := (o3.out B').more Y
  have g4 := (o4.out B').more Y
  rw [List.append_assoc, hB] at g1 g2 g3 g4
  exact ⟨g1, g2, g3, g4⟩
theorem viewArgs_own {α : Type} {B : List Blk} {r : Heap} {v : V} {e : Enc α} {l : List α} {vs l' : List V} (h : Own B v e l) (hr : viewArgs (B :: r) vs = some l') : viewArgs (B :: r) (v :: vs) = some (lst e l :: l') := by
 have := h.arg 49 r
 simp only [viewArgs, this, hr, Option.bind_some, lst_canon]
theorem Own.of_flat {α : Type} {H : List Blk} {v : V} {e : Enc α} {l : List α} (h : Own H v e l) (hf : V.flat v = true) : v = lst e l := by
 rcases h with ⟨rfl, rfl⟩ | ⟨j, ep, rfl, _⟩
 ·rfl
 ·simp at hf
theorem viewArgs_img {B : List Blk} {r : Heap} {vc vj vd vn : V} {x : Img} (h : Own B vc eInstr x.code ∧ Own B vj eU32 x.jumps ∧ Own B vd eU8 x.data ∧ Own B vn eExport x.names) :
  viewArgs (B :: r) [.agg [vc, vj, vd, w32 x.zero.toNat, w32 x.stack.toNat, vn]] = some [imgV x] := by
 obtain ⟨h1, h2, h3, h4⟩ := h
 have g1 := h1.view 48 r; have g2 := h2.view 48 r; have g3 := h3.view 48 r; have g4 := h4.view 48 r
 by_cases hf : V.flat (.agg [vc, vj, vd, w32 x.zero.toNat, w32 x.stack.toNat, vn]) = true
 ·have hf2 := hf
  simp at hf2
  obtain ⟨f1, f2, f3, f4⟩ := hf2
  rw [h1.of_flat f1, h2.of_flat f2, h3.of_flat f3, h4.of_flat f4]
  simp
 ·simp only [viewArgs, hf]
  simp [g1, g2, g3, g4]
theorem digest_eq (x : Img) (h : checkP x = 0) : IntKind.u64.wrap (IntKind.u64.wrap (((adler (encP x)).toNat : Int) * 4294967296) + (encP x).length) = (digestP x : Int) := by
 have := (adler (encP x)).toNat_lt
 have := enc_small h
 rw [IntKind.wrap_u64, IntKind.wrap_u64]
 unfold digestP
 omega
theorem mod_view {H : List Blk} {x : Img} {jm jk jf jn jd : Nat} {vc vj vd vn : V} {p1 p2 : Bool} (hm : H[jm]? = some (.row [.pref 0 jk 0 0] 0 1 false p1))
  (hk : H[jk]? = some (.row [.pref 0 jf 0 0, .sref 0 jn 0 (Fl.needF (cF x) (jF x)).length (Fl.needF (cF x) (jF x)).length (1, false), vc, .sref 0 jd 0 (Fl.dsF (cF x) (jF x)).length 0 (1, true), vc, vj, vd, w32 x.zero.toNat, w32 x.stack.toNat, vn, ii (bitsI x), w64 (digestP x)] 0 12 false p2))
  (hf : ∀ n, V.view (n + 3) [H] (.pref 0 jf 0 0) = some (Fl.procsU (Fl.cutF (cF x)) (tsF x)))
  (hn : H[jn]? = some (.row (cat Fl.eI (Fl.needF (cF x) (jF x))) (Fl.needF (cF x) (jF x)).length 1 true true)) (hd : H[jd]? = some (.row (cat Fl.eI (Fl.dsF (cF x) (jF x))) 0 1 true true))
  (ho : Own H vc eInstr x.code ∧ Own H vj eU32 x.jumps ∧ Own H vd eU8 x.data ∧ Own H vn eExport x.names) : V.view 50 [H] (.pref 0 jm 0 0) = some (modU x) := by
 obtain ⟨h1, h2, h3, h4⟩ := ho
 have g1 := h1.view 47 []; have g2 := h2.view 47 []; have g3 := h3.view 47 []; have g4 := h4.view 47 []
 have gf := hf 45
 generalize hU : Fl.procsU (Fl.cutF (cF x)) (tsF x) = U at *
 simp [hm, hk, hn, hd, gf, g1, g2, g3, g4]
 exact hU.symm
theorem aimOut_strip (n : Nat) (s ts) : (Fl.aimOut n s ts).map stripBlk = Fl.aimOut n s ts := by
 unfold Fl.aimOut
 have h : ∀ l : List V, (∀ v ∈ l, ∃ j o m e q, v = V.sref 0 j o m e q) → V.stripL (V.outL n l) = V.outL n l := by
  intro l
  induction l with
  | nil => intro _; simp
  | cons v l ih =>
   intro hl
   obtain ⟨j, o, m, e, q, rfl⟩ := hl v (by simp)
   simp [ih fun y hy => hl y (by simp [hy])]
 have h1 := h (Fl.tCells ts) fun v hv => by
  obtain ⟨j, o, m, e, q, _, h⟩ := Fl.tCells_low v hv
  exact ⟨j, o, m, e, q, h⟩
 have h2 : ((Fl.tRows ts).map (outBlk n)).map stripBlk = (Fl.tRows ts).map (outBlk n) := by
  rw [List.map_map]
  refine List.map_congr_left fun b hb => ?_
  obtain ⟨l, _, rfl⟩ := List.mem_map.1 hb
  simp
 simp only [List.map_cons, h2]
 simp [h1]
theorem aimOut_out (n : Nat) (s ts) : (Fl.aimOut n s ts).map (outBlk 1) = Fl.aimOut (n + 1) s ts := by
 unfold Fl.aimOut
 have h : ∀ l : List V, (∀ v ∈ l, ∃ j o m e q, v = V.sref 0 j o m e q) → V.outL 1 (V.outL n l) = V.outL (n + 1) l := by
  intro l
  induction l with
  | nil => intro _; simp
  | cons v l ih =>
   intro hl
   obtain ⟨j, o, m, e, q, rfl⟩ := hl v (by simp)
   simp [ih fun y hy => hl y (by simp [hy])]
   omega
 have h1 := h (Fl.tCells ts) fun v hv => by
  obtain ⟨j, o, m, e, q, _, h⟩ := Fl.tCells_low v hv
  exact ⟨j, o, m, e, q, h⟩
 have h2 : ((Fl.tRows ts).map (outBlk n)).map (outBlk 1) = (Fl.tRows ts).map (outBlk (n + 1)) := by
  rw [List.map_map]
  refine List.map_congr_left fun b hb => ?_
  obtain ⟨l, _, rfl⟩ := List.mem_map.1 hb
  simp
 simp only [List.map_cons, h2]
 simp [h1]
 omega
theorem Take_body (x : Img) (h : Taken x) : ∃ j X, bodyV E (om E) 22 [imgV x] [[]] = some (.tuple [.pref 0 j 0 0, ii 0, ii 0], [X]) ∧ V.view 50 [X] (.pref 0 j 0 0) = some (modU x) ∧ V.view 50 [X.map stripBlk] (.pref 0 j 0 0) = some (modU x) ∧ ∀ b0, V.view 50 [(b0 :: X.map (outBlk 1)).map stripBlk] (.pref 0 (1 + j) 0 0) = some (modU x) := by
 have hchk := h.chk
 obtain ⟨c1, c2, c3, c4, c5, c6, c7⟩ := check_ok hchk
 have hfit := fits_fl hchk
 have hC := fun lent => ImageCheck lent x (by omega) (by omega) (by omega) (by omega)
 simp only [hchk] at hC
 have hF := fun (B : List Blk) (r : Heap) (a1 a2 a3 : V) (hv : viewArgs (B :: r) [a1, a2, a3] = some [lst Fl.eInstr (cF x), lst Fl.eW (jF x), lst eExport x.names]) => Fl.FindN_at (by omega) hfit h.find h.names hv
 rw [← lst_fl, ← ws_fl] at hF
 have hD := fun (B : List Blk) (r : Heap) (a1 a2 : V) (hv : viewArgs (B :: r) [a1, a2] = some [lst Fl.eInstr (cF x), lst Fl.eW (jF x)]) => Fl.Depths_at hfit h.find h.all hv
 rw [← lst_fl, ← ws_fl] at hD
 have hB := fun lent => ImageBits_ok lent x hchk
 have hE := fun lent => ImageEncode lent x hchk
 have hlen : (encP x).length < 2 ^ 40 := by have := enc_small hchk; omega
 have hS := fun lent => Sum lent (encP x) hlen
 have hBc := fun (B : List Blk) (r : Heap) (a : V) (hv : viewArgs (B :: r) [a] = some [imgV x]) => (call_60 [a] (B :: r)).trans (by rw [hv, Option.bind_some, hB, Option.map_some])
 have hEc := fun (B : List Blk) (r : Heap) (a : V) (hv : viewArgs (B :: r) [a] = some [imgV x]) => (call_61 [a] (B :: r)).trans (by rw [hv, Option.bind_some, hE, Option.map_some])
 have hcp := fun (a : V) (B : List Blk) (r : Heap) (hf : V.flat a = true) (hv : viewArgs (B :: r) [a] = some [imgV x]) => copied_at x (by omega) (by omega) (by omega) (by omega) hf hv
 obtain ⟨vc, vj, vd, vn, X, hcop, ho⟩ := hcp (imgV x) [Blk.row [lst eInstr x.code, ws x.jumps, bs x.data, w32 x.zero.toNat, w32 x.stack.toNat, lst eExport x.names] 0 6 true false] [] (by simp) (by simp)
 have hX : ∀ b Y, Own (b :: (X ++ Y)) vc eInstr x.code ∧ Own (b :: (X ++ Y)) vj eU32 x.jumps ∧ Own (b :: (X ++ Y)) vd eU8 x.data ∧ Own (b :: (X ++ Y)) vn eExport x.names := fun b Y => ho [b] Y rfl
 have ec := (hX .dead []).1.cell; have ej := (hX .dead []).2.1.cell; have ed := (hX .dead []).2.2.1.cell; have en := (hX .dead []).2.2.2.cell
 have fc := (hX .dead []).1.cells; have fj := (hX .dead []).2.1.cells; have fd := (hX .dead []).2.2.1.cells; have fn := (hX .dead []).2.2.2.cells
 have hX0 : ∀ b, Own (b :: X) vc eInstr x.code ∧ Own (b :: X) vj eU32 x.jumps ∧ Own (b :: X) vd eU8 x.data ∧ Own (b :: X) vn eExport x.names := fun b => by
  have := hX b []
  simpa only [List.append_nil] using this
 obtain ⟨R, hR⟩ : ∃ R, R = Blk.row [vc, vj, vd, w32 x.zero.toNat, w32 x.stack.toNat, vn] 0 6 (vc.flat && (vj.flat && (vd.flat && vn.flat))) false := ⟨_, rfl⟩
 obtain ⟨A, hA⟩ : ∃ A, A = Fl.aimOut (X.length + 1) (Fl.cutF (cF x)) (tsF x) := ⟨_, rfl⟩
 have hFc : callV E (om E) 58 [vc, vj, vn] [R :: X] = some (.tuple [.pref 0 (X.length + 1) 0 0, ii 0, ii 0], [R :: (X ++ A)]) := by
  rw [hF _ _ _ _ _ (viewArgs_own (hX0 _).1 (viewArgs_own (hX0 _).2.1 (viewArgs_own (hX0 _).2.2.2 rfl))), hA]
  rfl
 obtain ⟨P, hP⟩ : ∃ P, P = R :: (X ++ (A ++ Fl.depO (Fl.graphV (cF x) (jF x) (Fl.cutF (cF x)) (Fl.tgts (cF x) (jF x))) (cF x).length (Fl.dsF (cF x) (jF x)) (Fl.needF (cF x) (jF x)) (X.length + A.length + 1))) := ⟨_, rfl⟩
 have hDc : callV E (om E) 59 [vc, vj] [R :: (X ++ A)] = some (.tuple [.sref 0 (X.length + A.length + 1 + 6) 0 (cF x).length 0 (1, true), .sref 0 (X.length + A.length + 1 + 9) 0 (Fl.cutF (cF x)).1.length (Fl.cutF (cF x)).1.length (1, false), ii 0, ii 0], [P]) := by
  rw [hD _ _ _ _ (viewArgs_own (hX _ _).1 (viewArgs_own (hX _ _).2.1 rfl)), hP]
  simp
 have hP0 : P[0]? = some (Blk.row [vc, vj, vd, w32 x.zero.toNat, w32 x.stack.toNat, vn] 0 6 (vc.flat && (vj.flat && (vd.flat && vn.flat))) false) := by rw [hP, hR]; rfl
 have hP1 : ∀ Y, (P ++ Y)[0]? = P[0]? := fun Y => by
  have hl : 0 < P.length := by rw [hP]; simp
  exact List.getElem?_append_left hl
 have hPn : ∀ Y : List Blk, (P ++ Y)[P.length]? = Y[0]? := fun Y => by rw [List.getElem?_append_right (by omega), Nat.sub_self]
 have hPn1 : ∀ Y : List Blk, (P ++ Y)[P.length + 1]? = Y[1]? := fun Y => by rw [List.getElem?_append_right (by omega), Nat.add_sub_cancel_left]
 have hPX : ∀ Y, Own (P ++ Y) vc eInstr x.code ∧ Own (P ++ Y) vj eU32 x.jumps ∧ Own (P ++ Y) vd eU8 x.data ∧ Own (P ++ Y) vn eExport x.names := fun Y => by
  have := hX R (A ++ Fl.depO (Fl.graphV (cF x) (jF x) (Fl.cutF (cF x)) (Fl.tgts (cF x) (jF x))) (cF x).length (Fl.dsF (cF x) (jF x)) (Fl.needF (cF x) (jF x)) (X.length + A.length + 1) ++ Y)
  rw [hP]
  simpa only [List.cons_append, List.append_assoc] using this
 have F1 : (Fl.cutF (cF x)).1.length = (Fl.needF (cF x) (jF x)).length := by simp [Fl.needF, Fl.needN]
 have hcut : Fl.CutOk (cF x) (cF x).length (Fl.cutF (cF x)) := Fl.cut_ok h.find.first _
 have hI := Fl.ds_inv hcut (Fl.next_lt h.find) (Fl.cutF (cF x)).1.length (Nat.le_refl _) h.all
 have F2 : x.code.length = (Fl.dsF (cF x) (jF x)).length := by
  have := hI.len
  unfold Fl.dsF
  rw [this]; simp [cF]
 obtain ⟨K, hK⟩ : ∃ K, K = [Blk.row [.pref 0 (X.length + 1) 0 0, .sref 0 (X.length + A.length + 1 + 9) 0 (Fl.needF (cF x) (jF x)).length (Fl.needF (cF x) (jF x)).length (1, false), vc, .sref 0 (X.length + A.length + 1 + 6) 0 (Fl.dsF (cF x) (jF x)).length 0 (1, true), vc, vj, vd, w32 x.zero.toNat, w32 x.stack.toNat, vn, ii (bitsI x), w64 (digestP x)] 0 12 false false, Blk.row [V.pref 0 P.length 0 0] 0 1 false false] := ⟨_, rfl⟩
 have hb : bodyV E (om E) 22 [imgV x] [[]] = some (.tuple [.pref 0 (P.length + 1) 0 0, ii 0, ii 0], [P ++ K]) := by
  subst hR
  apply bo_22
  simp (disch := omega) [if_pos, if_neg, iteK_pos, iteK_neg, Tryz.f22, hC, hcop, ec, ej, ed, en, fc, fj, fd, fn]
  simp (disch := omega) [if_pos, if_neg, iteK_pos, iteK_neg, hFc, hDc, hP1, hPn, hPn1, hP0, ec, ej, ed, en, fc, fj, fd, fn, -call_60, -call_61]
  rw [hBc _ _ _ (viewArgs_img (hPX _))]
  simp (disch := omega) [if_pos, if_neg, iteK_pos, iteK_neg, hFc, hDc, hP1, hPn, hPn1, hP0, ec, ej, ed, en, fc, fj, fd, fn, -call_60, -call_61]
  rw [hEc _ _ _ (viewArgs_img (hPX _))]
  simp (disch := omega) [if_pos, if_neg, iteK_pos, iteK_neg, hFc, hDc, hP1, hPn, hPn1, hP0, ec, ej, ed, en, fc, fj, fd, fn, hS]
  rw [digest_eq x hchk, F1, F2, hK]
  rfl
 have hPl : P.length = X.length + A.length + 11 := by rw [hP]; simp; omega
 have hD9 : ∀ Y, (P ++ Y)[X.length + A.length + 1 + 9]? = some (.row (cat Fl.eI (Fl.needF (cF x) (jF x))) (Fl.needF (cF x) (jF x)).length 1 true true) := fun Y => by
  rw [List.getElem?_append_left (by omega), hP, show X.length + A.length + 1 + 9 = (X.length + (A.length + 9)) + 1 by omega, List.getElem?_cons_succ, List.getElem?_append_right (by omega), Nat.add_sub_cancel_left, List.getElem?_append_right (by omega), Nat.add_sub_cancel_left]
  rfl
 have hD6 : ∀ Y, (P ++ Y)[X.length + A.length + 1 + 6]? = some (.row (cat Fl.eI (Fl.dsF (cF x) (jF x))) 0 1 true true) := fun Y => by
  rw [List.getElem?_append_left (by omega), hP, show X.length + A.length + 1 + 6 = (X.length + (A.length + 6)) + 1 by omega, List.getElem?_cons_succ, List.getElem?_append_right (by omega), Nat.add_sub_cancel_left, List.getElem?_append_right (by omega), Nat.add_sub_cancel_left]
  rfl
 have hmap : ∀ {j b}, (P ++ K)[j]? = some b → ((P ++ K).map stripBlk)[j]? = some (stripBlk b) := fun h => by rw [List.getElem?_map, h]; rfl
 have hKm : (P ++ K)[P.length + 1]? = some (Blk.row [V.pref 0 P.length 0 0] 0 1 false false) := by rw [hPn1, hK]; rfl
 have hKk := hPn K
 refine ⟨P.length + 1, P ++ K, hb, ?_, ?_, fun b0 => ?_⟩
 ·refine mod_view hKm (by rw [hKk, hK]; rfl) (fun n => ?_) (hD9 K) (hD6 K) (hPX K)
  have e1 : P ++ K = (R :: X) ++ (Fl.aimOut (R :: X).length (Fl.cutF (cF x)) (tsF x) ++ (Fl.depO (Fl.graphV (cF x) (jF x) (Fl.cutF (cF x)) (Fl.tgts (cF x) (jF x))) (cF x).length (Fl.dsF (cF x) (jF x)) (Fl.needF (cF x) (jF x)) (X.length + A.length + 1) ++ K)) := by
   rw [hP, hA]; simp
  rw [e1]
  exact Fl.view_aim n (R :: X) (Fl.cutF (cF x)) (tsF x) (tgtsF_len x) _ []
 ·have o := hPX K
  refine mod_view (jf := X.length + 1) (jn := X.length + A.length + 1 + 9) (jd := X.length + A.length + 1 + 6) (hmap hKm) (p1 := false) (p2 := false) ?_ (fun n => ?_) ?_ ?_ ⟨o.1.stripB, o.2.1.stripB, o.2.2.1.stripB, o.2.2.2.stripB⟩
  ·have h0 : (P ++ K)[P.length]? = some (Blk.row [.pref 0 (X.length + 1) 0 0, .sref 0 (X.length + A.length + 1 + 9) 0 (Fl.needF (cF x) (jF x)).length (Fl.needF (cF x) (jF x)).length (1, false), vc, .sref 0 (X.length + A.length + 1 + 6) 0 (Fl.dsF (cF x) (jF x)).length 0 (1, true), vc, vj, vd, w32 x.zero.toNat, w32 x.stack.toNat, vn, ii (bitsI x), w64 (digestP x)] 0 12 false false) := by rw [hKk, hK]; rfl
   rw [hmap h0]
   simp [o.1.strip, o.2.1.strip, o.2.2.1.strip, o.2.2.2.strip]
  ·have e1 : (P ++ K).map stripBlk = (stripBlk R :: X.map stripBlk) ++ (Fl.aimOut (stripBlk R :: X.map stripBlk).length (Fl.cutF (cF x)) (tsF x) ++ ((Fl.depO (Fl.graphV (cF x) (jF x) (Fl.cutF (cF x)) (Fl.tgts (cF x) (jF x))) (cF x).length (Fl.dsF (cF x) (jF x)) (Fl.needF (cF x) (jF x)) (X.length + A.length + 1)).map stripBlk ++ K.map stripBlk)) := by
    have h1 := aimOut_strip (X.length + 1) (Fl.cutF (cF x)) (tsF x)
    generalize Fl.depO _ _ _ _ _ = D at *
    rw [hP, hA]
    simp only [List.cons_append, List.map_cons, List.map_append, List.append_assoc, h1, List.length_cons, List.length_map]
   rw [e1]
   have := Fl.view_aim n (stripBlk R :: X.map stripBlk) (Fl.cutF (cF x)) (tsF x) (tgtsF_len x) ((Fl.depO (Fl.graphV (cF x) (jF x) (Fl.cutF (cF x)) (Fl.tgts (cF x) (jF x))) (cF x).length (Fl.dsF (cF x) (jF x)) (Fl.needF (cF x) (jF x)) (X.length + A.length + 1)).map stripBlk ++ K.map stripBlk) []
   rw [show (stripBlk R :: X.map stripBlk).length = X.length + 1 by simp] at this ⊢
   exact this
  ·rw [hmap (hD9 K)]; simp
  ·rw [hmap (hD6 K)]; simp
 ·have o1 := (hPX K).1.out [b0]; have o2 := (hPX K).2.1.out [b0]; have o3 := (hPX K).2.2.1.out [b0]; have o4 := (hPX K).2.2.2.out [b0]
  have hmap1 : ∀ {j b}, (P ++ K)[j]? = some b → ((b0 :: (P ++ K).map (outBlk 1)).map stripBlk)[1 + j]? = some (stripBlk (outBlk 1 b)) := fun h => by
   rw [Nat.add_comm, List.map_cons, List.getElem?_cons_succ, List.getElem?_map, List.getElem?_map, h]; rfl
  refine mod_view (jk := 1 + P.length) (jf := 1 + (X.length + 1)) (jn := 1 + (X.length + A.length + 1 + 9)) (jd := 1 + (X.length + A.length + 1 + 6)) (vc := V.out 1 vc) (vj := V.out 1 vj) (vd := V.out 1 vd) (vn := V.out 1 vn) (p1 := false) (p2 := false) ?_ ?_ (fun n => ?_) ?_ ?_ ⟨o1.stripB, o2.stripB, o3.stripB, o4.stripB⟩
  ·rw [hmap1 hKm]; simp
  ·have h0 : (P ++ K)[P.length]? = some (Blk.row [.pref 0 (X.length + 1) 0 0, .sref 0 (X.length + A.length + 1 + 9) 0 (Fl.needF (cF x) (jF x)).length (Fl.needF (cF x) (jF x)).length (1, false), vc, .sref 0 (X.length + A.length + 1 + 6) 0 (Fl.dsF (cF x) (jF x)).length 0 (1, true), vc, vj, vd, w32 x.zero.toNat, w32 x.stack.toNat, vn, ii (bitsI x), w64 (digestP x)] 0 12 false false) := by rw [hKk, hK]; rfl
   rw [hmap1 h0]
   have s1 := o1.strip; have s2 := o2.strip; have s3 := o3.strip; have s4 := o4.strip
   simp only [List.length_cons, List.length_nil, Nat.zero_add] at s1 s2 s3 s4
   simp [s1, s2, s3, s4]
  ·have e1 : (b0 :: (P ++ K).map (outBlk 1)).map stripBlk = (stripBlk b0 :: stripBlk (outBlk 1 R) :: (X.map (outBlk 1)).map stripBlk) ++ (Fl.aimOut (stripBlk b0 :: stripBlk (outBlk 1 R) :: (X.map (outBlk 1)).map stripBlk).length (Fl.cutF (cF x)) (tsF x) ++ (((Fl.depO (Fl.graphV (cF x) (jF x) (Fl.cutF (cF x)) (Fl.tgts (cF x) (jF x))) (cF x).length (Fl.dsF (cF x) (jF x)) (Fl.needF (cF x) (jF x)) (X.length + A.length + 1)).map (outBlk 1)).map stripBlk ++ (K.map (outBlk 1)).map stripBlk)) := by
    have h0 := aimOut_out (X.length + 1) (Fl.cutF (cF x)) (tsF x)
    have h1 := aimOut_strip (X.length + 1 + 1) (Fl.cutF (cF x)) (tsF x)
    generalize Fl.depO _ _ _ _ _ = D at *
    rw [hP, hA]
    simp only [List.cons_append, List.map_cons, List.map_append, List.append_assoc, h0, h1, List.length_cons, List.length_map]
   rw [e1]
   have := Fl.view_aim n (stripBlk b0 :: stripBlk (outBlk 1 R) :: (X.map (outBlk 1)).map stripBlk) (Fl.cutF (cF x)) (tsF x) (tgtsF_len x) (((Fl.depO (Fl.graphV (cF x) (jF x) (Fl.cutF (cF x)) (Fl.tgts (cF x) (jF x))) (cF x).length (Fl.dsF (cF x) (jF x)) (Fl.needF (cF x) (jF x)) (X.length + A.length + 1)).map (outBlk 1)).map stripBlk ++ (K.map (outBlk 1)).map stripBlk) []
   rw [show (stripBlk b0 :: stripBlk (outBlk 1 R) :: (X.map (outBlk 1)).map stripBlk).length = 1 + (X.length + 1) by simp; omega] at this ⊢
   exact this
  ·rw [hmap1 (hD9 K)]; simp
  ·rw [hmap1 (hD6 K)]; simp
theorem strip_tup (j : Nat) (a b : Int) : V.strip (.tuple [.pref 0 j 0 0, ii a, ii b]) = .tuple [.pref 0 j 0 0, ii a, ii b] := by simp
theorem Take_at (x : Img) (h : Taken x) {a : V} {B : List Blk} {r : Heap} (hv : viewArgs (B :: r) [a] = some [imgV x]) : ∃ j X, callV E (om E) 22 [a] (B :: r) = some (.tuple [.pref 0 (B.length + j) 0 0, ii 0, ii 0], (B ++ X) :: r) ∧
  ∀ (B' Y : List Blk) (R : Heap), B'.length = B.length → V.view 50 ((B' ++ (X ++ Y)) :: R) (.pref 0 (B.length + j) 0 0) = some (modU x) := by
 obtain ⟨j, X, hb, v1, v2, _⟩ := Take_body x h
 by_cases hl : (!V.flatL [a] && !V.own [X] (.tuple [.pref 0 j 0 0, ii 0, ii 0])) = true
 ·refine ⟨j, (X.map stripBlk).map (outBlk B.length), ?_, fun B' Y R hB => ?_⟩
  ·rw [call_22, hv, Option.bind_some, hb, Option.bind_some, if_pos hl, strip_tup]
   simp [Heap.top, Heap.setTop]
  ·have := view_out B' (X.map stripBlk) Y R 50 _ _ v2
   rw [hB] at this
   simpa using this
 ·refine ⟨j, X.map (outBlk B.length), ?_, fun B' Y R hB => ?_⟩
  ·rw [call_22, hv, Option.bind_some, hb, Option.bind_some, if_neg hl]
   simp [Heap.top, Heap.setTop]
  ·have := view_out B' X Y R 50 _ _ v1
   rw [hB] at this
   simpa using this
def TakeNo (x : Img) (a e : Int) : Prop := ∀ (v : V) (B : List Blk) (r : Heap), viewArgs (B :: r) [v] = some [imgV x] → ∃ Y, callV E (om E) 22 [v] (B :: r) = some (.tuple [.nilptr, ii a, ii e], (B ++ Y) :: r)
theorem takeNo {x : Img} {a e : Int} (hb : ∃ X, bodyV E (om E) 22 [imgV x] [[]] = some (.tuple [.nilptr, ii a, ii e], [X])) : TakeNo x a e := by
 intro v B r hv
 obtain ⟨X, hb⟩ := hb
 refine ⟨X.map (outBlk B.length), ?_⟩
 rw [call_22, hv]
 simp [hb, Heap.setTop, Heap.top]
theorem Take_check (x : Img) (h1 : x.code.length < 2 ^ 63) (h2 : x.jumps.length < 2 ^ 63) (h3 : x.data.length < 2 ^ 63) (h4 : x.names.length < 2 ^ 63) (hc : checkP x ≠ 0) : TakeNo x 0 (checkP x) := by
 have hC := fun lent => ImageCheck lent x h1 h2 h3 h4
 apply takeNo
 refine ⟨?_, ?_⟩
 rotate_left
 apply bo_22
 simp (disch := omega) [if_pos, if_neg, iteK_pos, iteK_neg, Tryz.f22, hC, hc]
 rfl
theorem Take_find (x : Img) (hchk : checkP x = 0) {a e : Nat} (he : e ≠ 0) (hF : Fl.FindNo (cF x) (jF x) x.names a e) : TakeNo x a e := by
 obtain ⟨c1, c2, c3, c4, c5, c6, c7⟩ := check_ok hchk
 have hC := fun lent => ImageCheck lent x (by omega) (by omega) (by omega) (by omega)
 simp only [hchk] at hC
 obtain ⟨vc, vj, vd, vn, X, hcop, ho⟩ := copied_at x (by omega) (by omega) (by omega) (by omega) (a := imgV x) (B := [Blk.row [lst eInstr x.code, ws x.jumps, bs x.data, w32 x.zero.toNat, w32 x.stack.toNat, lst eExport x.names] 0 6 true false]) (r := []) (by simp) (by simp)
 have hX : ∀ b, Own (b :: X) vc eInstr x.code ∧ Own (b :: X) vj eU32 x.jumps ∧ Own (b :: X) vd eU8 x.data ∧ Own (b :: X) vn eExport x.names := fun b => by
  have := ho [b] [] rfl
  simp only [List.append_nil] at this
  exact this
 have ec := (hX .dead).1.cell; have ej := (hX .dead).2.1.cell; have ed := (hX .dead).2.2.1.cell; have en := (hX .dead).2.2.2.cell
 have fc := (hX .dead).1.cells; have fj := (hX .dead).2.1.cells; have fd := (hX .dead).2.2.1.cells; have fn := (hX .dead).2.2.2.cells
 obtain ⟨Y, hY⟩ := hF (a1 := vc) (a2 := vj) (a3 := vn) (B := Blk.row [vc, vj, vd, w32 x.zero.toNat, w32 x.stack.toNat, vn] 0 6 (vc.flat && (vj.flat && (vd.flat && vn.flat))) false :: X) (r := [])
  (by rw [← lst_fl, ← ws_fl]; exact viewArgs_own (hX _).1 (viewArgs_own (hX _).2.1 (viewArgs_own (hX _).2.2.2 rfl)))
 apply takeNo
 refine ⟨?_, ?_⟩
 rotate_left
 apply bo_22
 simp (disch := omega) [if_pos, if_neg, iteK_pos, iteK_neg, Tryz.f22, hC, hcop, ec, ej, ed, en, fc, fj, fd, fn, hY, he]
 rfl
theorem Take_flow (x : Img) (hchk : checkP x = 0) (hfi : Fl.FindOk (cF x) (jF x)) (hna : Fl.NamesAt (cF x) x.names) (m : Nat) (hm : m < (Fl.cutF (cF x)).1.length)
  (hok : ∀ k, k < m → (Fl.walkN (cF x) (Fl.cutF (cF x)) (Fl.tgts (cF x) (jF x)) k).e = 0) (hbad : (Fl.walkN (cF x) (Fl.cutF (cF x)) (Fl.tgts (cF x) (jF x)) m).e ≠ 0) {e : Nat} {a : Int} (ha : (Fl.walkN (cF x) (Fl.cutF (cF x)) (Fl.tgts (cF x) (jF x)) m).at_ = a) (hee : (Fl.walkN (cF x) (Fl.cutF (cF x)) (Fl.tgts (cF x) (jF x)) m).e = e) : TakeNo x a e := by
 obtain ⟨c1, c2, c3, c4, c5, c6, c7⟩ := check_ok hchk
 have hfit := fits_fl hchk
 have hC := fun lent => ImageCheck lent x (by omega) (by omega) (by omega) (by omega)
 simp only [hchk] at hC
 obtain ⟨vc, vj, vd, vn, X, hcop, ho⟩ := copied_at x (by omega) (by omega) (by omega) (by omega) (a := imgV x) (B := [Blk.row [lst eInstr x.code, ws x.jumps, bs x.data, w32 x.zero.toNat, w32 x.stack.toNat, lst eExport x.names] 0 6 true false]) (r := []) (by simp) (by simp)
 have hX : ∀ b Y, Own (b :: (X ++ Y)) vc eInstr x.code ∧ Own (b :: (X ++ Y)) vj eU32 x.jumps ∧ Own (b :: (X ++ Y)) vd eU8 x.data ∧ Own (b :: (X ++ Y)) vn eExport x.names := fun b Y => ho [b] Y rfl
 have hX0 : ∀ b, Own (b :: X) vc eInstr x.code ∧ Own (b :: X) vj eU32 x.jumps ∧ Own (b :: X) vd eU8 x.data ∧ Own (b :: X) vn eExport x.names := fun b => by
  have := hX b []
  simpa only [List.append_nil] using this
 have ec := (hX0 .dead).1.cell; have ej := (hX0 .dead).2.1.cell; have ed := (hX0 .dead).2.2.1.cell; have en := (hX0 .dead).2.2.2.cell
 have fc := (hX0 .dead).1.cells; have fj := (hX0 .dead).2.1.cells; have fd := (hX0 .dead).2.2.1.cells; have fn := (hX0 .dead).2.2.2.cells
 obtain ⟨A, hA⟩ : ∃ A, A = Fl.aimOut (X.length + 1) (Fl.cutF (cF x)) (tsF x) := ⟨_, rfl⟩
 have hFc : callV E (om E) 58 [vc, vj, vn] [Blk.row [vc, vj, vd, w32 x.zero.toNat, w32 x.stack.toNat, vn] 0 6 (vc.flat && (vj.flat && (vd.flat && vn.flat))) false :: X] = some (.tuple [.pref 0 (X.length + 1) 0 0, ii 0, ii 0], [Blk.row [vc, vj, vd, w32 x.zero.toNat, w32 x.stack.toNat, vn] 0 6 (vc.flat && (vj.flat && (vd.flat && vn.flat))) false :: (X ++ A)]) := by
  rw [Fl.FindN_at (by omega) hfit hfi hna (by rw [← lst_fl, ← ws_fl]; exact viewArgs_own (hX0 _).1 (viewArgs_own (hX0 _).2.1 (viewArgs_own (hX0 _).2.2.2 rfl))), hA]
  rfl
 have hb := Fl.Depths_body hfit hfi m (by omega) hok (fun _ => hbad)
 unfold Fl.depR at hb
 rw [if_pos hm, ha, hee] at hb
 rw [hee] at hbad
 generalize Fl.depE _ _ _ _ _ _ = D at hb
 rw [← lst_fl, ← ws_fl] at hb
 obtain ⟨D', hDc⟩ : ∃ D', callV E (om E) 59 [vc, vj] [Blk.row [vc, vj, vd, w32 x.zero.toNat, w32 x.stack.toNat, vn] 0 6 (vc.flat && (vj.flat && (vd.flat && vn.flat))) false :: (X ++ A)] = some (.tuple [.nilslice, .nilslice, ii a, ii e], [Blk.row [vc, vj, vd, w32 x.zero.toNat, w32 x.stack.toNat, vn] 0 6 (vc.flat && (vj.flat && (vd.flat && vn.flat))) false :: (X ++ (A ++ D'))]) := by
  rw [call_59, viewArgs_own (hX _ _).1 (viewArgs_own (hX _ _).2.1 rfl)]
  simp [hb, Heap.setTop, Heap.top]
 apply takeNo
 refine ⟨?_, ?_⟩
 rotate_left
 apply bo_22
 simp (disch := omega) [if_pos, if_neg, iteK_pos, iteK_neg, Tryz.f22, hC, hcop, ec, ej, ed, en, fc, fj, fd, fn, hFc, hDc, hbad]
 rfl
end Go.Proofs.YthiciofacaeddaaGreat
end
