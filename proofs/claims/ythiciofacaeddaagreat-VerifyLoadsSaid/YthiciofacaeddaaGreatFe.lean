/-
 procs.Find with names, as memory of its own.
 Package flow: found, info, next (Find own).
-/
import Derived.Test.YthiciofacaeddaaGreatFd
import Derived.Test.YthiciofacaeddaaGreatIa
import Derived.Test.YthiciofacaeddaaGreatNa
import Derived.Test.YthiciofacaeddaaGreatMd
section
namespace Go.Proofs.YthiciofacaeddaaGreat.Fl
open Go Go.Sim
set_option maxRecDepth 100000
set_option maxHeartbeats 0
set_option linter.unusedSimpArgs false
set_option linter.unusedVariables false

theorem eq_pcon (x y : Operand) (c : List V) (o : Nat) : binO E .eql 91 x y (.pcon c o) .nilptr = some (.bool false) := by
 show binV E .eql 91 (.pcon c o) .nilptr = some (.bool false)
 have h : E.P.underlying 91 = some (.pointer 165) := by kernel_rfl
 unfold binV
 simp [eqV, h]
theorem clone_eW (L : Nat) (l : List Nat) (h : Heap) : cloneWL L 1 [lst eW l] h = if L < l.length then none else if l = [] then some (.scon [] 0 0 false, h) else
  some (.sref 0 (h.top.length + 1) 0 l.length 0 (1, false), (Go.Sim.newRow (h.push (.row [] 0 1 true true)) (cat eW l) 1).2) := clone_lst eW l h 1 rfl
theorem clone_eI (L : Nat) (l : List Instr) (h : Heap) : cloneWL L 2 [lst eInstr l] h = if L < l.length then none else if l = [] then some (.scon [] 0 0 false, h) else
  some (.sref 0 (h.top.length + 1) 0 l.length 0 (2, false), (Go.Sim.newRow (h.push (.row [] 0 2 true true)) (cat eInstr l) 2).2) := clone_lst eInstr l h 2 rfl
theorem ProcsOf (s : List PR × List Nat) (ts : List (List Nat)) (i : Nat) (hi : i < s.2.length) (hi' : i < 4294967296) : pureV E (om E) 134 false [procsV s ts, .int .u32 i] = some (ii s.2[i]) := by
 apply pu_134
 simp (disch := omega) [if_pos, if_neg, iteK_pos, iteK_neg, Tryz.f134, hi, procsV, eq_pcon]
theorem ProcsProc (s : List PR × List Nat) (ts : List (List Nat)) (i : Nat) (hi : i < s.1.length) : pureV E (om E) 157 false [procsV s ts, ii i] = some (.tuple [prV s.1[i], bb true]) := by
 apply pu_157
 simp (disch := omega) [if_pos, if_neg, iteK_pos, iteK_neg, Tryz.f157, hi, procsV, eq_pcon]
theorem ProcsOf_no (s : List PR × List Nat) (ts : List (List Nat)) (i : Nat) (hi : s.2.length ≤ i) (hi' : i < 4294967296) : pureV E (om E) 134 false [procsV s ts, .int .u32 i] = some (ii (-1)) := by
 apply pu_134
 simp (disch := omega) [if_pos, if_neg, iteK_pos, iteK_neg, Tryz.f134, hi, procsV, eq_pcon]
theorem ProcsProc_no (s : List PR × List Nat) (ts : List (List Nat)) : pureV E (om E) 157 false [procsV s ts, ii (-1)] = some (.tuple [prV ⟨0, 0, 0⟩, bb false]) := by
 apply pu_157
 simp (disch := omega) [if_pos, if_neg, iteK_pos, iteK_neg, Tryz.f157, procsV, eq_pcon]
def beginsF (s : List PR × List Nat) (x : Nat) : Bool := decide (x < s.2.length ∧ (s.1.getD (s.2.getD x 0) default).b = x)
theorem ProcsBegins (lent) (s : List PR × List Nat) (ts : List (List Nat)) (x : Nat) (hx : x < 4294967296) (ho : ∀ p ∈ s.2, p < s.1.length) : pureV E (om E) 113 lent [procsV s ts, .int .u32 x] = some (bb (beginsF s x)) := by
 apply pu_113
 have hc : V.canon (procsV s ts) = procsV s ts := by simp [canon_lsts]
 have hf : V.flat (procsV s ts) = true := by simp
 by_cases h : x < s.2.length
 ·have hO := ProcsOf s ts x h hx
  have hp := ho _ (List.getElem_mem h)
  have hP := ProcsProc s ts _ hp
  have hb : beginsF s x = decide (s.1[s.2[x]].b = x) := by unfold beginsF; rw [getD_lt h, getD_lt hp]; simp [h]
  rw [hb]
  generalize procsV s ts = PV at *
  by_cases hx2 : s.1[s.2[x]].b = x
  ·simp (disch := omega) [if_pos, if_neg, iteK_pos, iteK_neg, Tryz.f113, hO, hP, hc, hf, hx2]
  ·simp (disch := omega) [if_pos, if_neg, iteK_pos, iteK_neg, Tryz.f113, hO, hP, hc, hf, hx2]
   omega
 ·have hO := ProcsOf_no s ts x (by omega) hx
  have hP := ProcsProc_no s ts
  have hb : beginsF s x = false := by unfold beginsF; simp [h]
  rw [hb]
  generalize procsV s ts = PV at *
  simp (disch := omega) [if_pos, if_neg, iteK_pos, iteK_neg, Tryz.f113, hO, hP, hc, hf]
theorem view_tcellsX (n : Nat) (a0 a1 a2 a3 : Blk) (X : List Blk) (ts : List (List Nat)) (r : Heap) : optMap (V.view (n + 1) ((a0 :: a1 :: a2 :: a3 :: (tRows ts ++ X)) :: r)) (tCells ts) = some (ts.map (lst eW)) := by
 refine optMap_of (by simp) (fun i h h' => ?_)
 have hi : i < ts.length := by simpa using h
 have e1 : (tCells ts)[i] = .sref 0 (i + 4) 0 ts[i].length ts[i].length (1, false) := by simp [tCells]
 rw [e1]
 simp [tRowsA_get hi]
theorem tRowsA_put (ts : List (List Nat)) (x y : Blk) : (tRows ts ++ [x]).set ts.length y = tRows ts ++ [y] := by
 rw [List.set_append_right _ _ (by simp)]; simp
def nameBlk (names : List Export) (q : Nat) : List Blk := match names[q]? with | some n => [.row [.str n.name, w32 n.place.toNat] 0 2 true true] | none => []
def findRN (code : List Instr) (jumps : List Nat) (names : List Export) (k m q : Nat) : V × Heap :=
 if k < code.length then (.tuple [.nilptr, ii k, ii (faultAt (cutF code) code k)], [cutOut (cutF code) ++ [.row [.int .u8 (code.getD k default).op, .int .u32 (code.getD k default).arg] 0 2 true true]])
 else if m < jumps.length then (.tuple [.nilptr, ii m, ii 134], [aimBlk (cutF code) (tgtN (cutF code) jumps m)])
 else if q < names.length then (.tuple [.nilptr, ii q, ii 135], [aimBlk (cutF code) (tgtN (cutF code) jumps jumps.length) ++ nameBlk names q])
 else (.tuple [.pref 0 0 0 0, ii 0, ii 0], [aimBlk (cutF code) (tgtN (cutF code) jumps jumps.length)])
theorem FindN_body (names : List Export) (hnl : names.length < 4611686018427387904) (code : List Instr) (jumps : List Nat) (hf : ∀ i ∈ code, insFits i) (hj : jumps.length ≤ 35184372087808) (hjf : ∀ t ∈ jumps, t < 4294967296) (he : encodes code) (hc : 0 < code.length) (h0 : (code.getD 0 default).op = 3)
  (k m q : Nat) (hk : k ≤ code.length) (hb : ∀ i, i < k → faultAt (cutF code) code i = 0) (hbk : k < code.length → faultAt (cutF code) code k ≠ 0)
  (hm : m ≤ jumps.length) (hmb : ∀ i, i < m → ¬ badJ (cutF code) jumps i) (hmk : m < jumps.length → badJ (cutF code) jumps m)
  (hq : q ≤ names.length) (hqb : ∀ i, (h : i < q) → beginsF (cutF code) (names[i]'(by omega)).place.toNat = true) (hqk : (h : q < names.length) → beginsF (cutF code) names[q].place.toNat = false) : bodyV E (om E) 58 [lst eInstr code, lst eW jumps, lst eExport names] [[]] = some (findRN code jumps names k m q) := by
 apply bo_58
 have hE : ∀ lent, _ := fun lent => Encode_ok lent code he.1 hf he.2
 have hne : code ≠ [] := by rintro rfl; simp at hc
 have hop : code[0].op = 3 := by simpa [List.getD, hc] using h0
 have s2 : (cutF code).2.length = code.length := (cutN_len code code.length).1
 have s1 : (cutF code).1.length ≤ code.length := (cutN_len code code.length).2
 have s0 : 0 < (cutF code).1.length := cutN_pos h0 hc
 have so : ∀ p ∈ (cutF code).2, p < (cutF code).1.length := cutN_of h0 code.length
 have hl := he.1
 have hcut := Cut_at code he.1 h0
 unfold findRN
 generalize cutF code = s at *
 have haim := Aim s jumps m hm s0 (by omega) (by omega) so hj hjf hmb hmk
 simp (disch := omega) [if_pos, if_neg, iteK_pos, iteK_neg, Tryz.f58, hE, hc, hne, hop, hcut]
 refine loop_use (dyn := [10]) (fun (a : Nat) => findSlots code jumps (lst eExport names) (bs (encI code)) a)
  (fun a => [cutOut s]) (fun a => a ≤ k) (fun a => k - a) hint_58_0 (by kernel_rfl) ?_ 0 (by simp) (by simp [findSlots])
 rintro i hi IH
 rw [lpB_eq]
 by_cases hik : i < k
 ·have hlt : i < code.length := by omega
  have hbi := hb i hik
  have h2 : i < s.2.length := by omega
  have h1 : s.2[i] < s.1.length := so _ (List.getElem_mem h2)
  unfold faultAt at hbi
  rw [getD_lt hlt, getD_lt h2, getD_lt h1] at hbi
  simp (disch := omega) [if_pos, if_neg, iteK_pos, iteK_neg, hlt, h2, h1, PFault, hbi, eN_get, ePR_get0, ePR_get1, ePR_get2, ePR_get3]
  rw [iteK_pos (by kernel_rfl)]
  simp (disch := omega) [if_pos, if_neg, iteK_pos, iteK_neg, hlt, h2, h1, PFault, hbi, eN_get, ePR_get0, ePR_get1, ePR_get2, ePR_get3]
  exact IH (i + 1) _ _ (by omega) (by omega) (by simp [findSlots])
 ·obtain rfl : i = k := by omega
  by_cases hlt : i < code.length
  ·have hbi := hbk hlt
   have h2 : i < s.2.length := by omega
   have h1 : s.2[i] < s.1.length := so _ (List.getElem_mem h2)
   unfold faultAt at hbi ⊢
   rw [getD_lt hlt, getD_lt h2, getD_lt h1] at hbi ⊢
   simp (disch := omega) [if_pos, if_neg, iteK_pos, iteK_neg, hlt, h2, h1, PFault, hbi, eN_get, ePR_get0, ePR_get1, ePR_get2, ePR_get3]
   rw [iteK_pos (by kernel_rfl)]
   simp (disch := omega) [if_pos, if_neg, iteK_pos, iteK_neg, hlt, h2, h1, PFault, hbi, eN_get, ePR_get0, ePR_get1, ePR_get2, ePR_get3]
  ·obtain rfl : i = code.length := by omega
   by_cases hmj : m < jumps.length
   ·simp (disch := omega) [if_pos, if_neg, iteK_pos, iteK_neg, hmj, call_112, haim]
   ·obtain rfl : m = jumps.length := by omega
    simp (disch := omega) [if_pos, if_neg, iteK_pos, iteK_neg, call_112, haim]
    have htl := tgtN_len s jumps jumps.length
    generalize tgtN s jumps jumps.length = ts at *
    have hcc : cutCells (List.map (lst eW) ts) 0 s.1.length 1 = List.map (lst eW) ts := cutCells_all _ _ _ (by simp [htl])
    have hcc' : cutCells (List.map (lst eW) ts) 0 ts.length 1 = List.map (lst eW) ts := cutCells_all _ _ _ (by simp)
    have e1 : ∀ x : Blk, (tRows ts ++ [x])[s.1.length]? = some x := fun x => by rw [← htl]; exact tRowsA_end
    have e2 : ∀ x y : Blk, (tRows ts ++ [x]).set s.1.length y = tRows ts ++ [y] := fun x y => by rw [← htl]; exact tRowsA_put ts x y
    have e3 : ∀ H, V.settleL (s.1.length + 1 + 1 + 1 + 1) H (tCells ts) = tCells ts := fun H => by rw [← htl]; exact settleL_ids _ H _ tCells_low
    have e4 : ∀ H, (tRows ts).map (settleBlk (s.1.length + 1 + 1 + 1 + 1) H) = tRows ts := fun H => settle_trows ts _ H
    have e5 : ∀ x : Blk, List.take s.1.length (tRows ts ++ [x]) = tRows ts := fun x => by rw [← htl]; simp
    have hB := fun lent x hx => ProcsBegins lent s ts x hx so
    refine loop_chg (dyn := [10]) (fun j : Nat => [(83, ii j)]) (fun _ => []) (fun _ => []) (fun j => j ≤ q) (fun j => q - j) hint_58_1 (by kernel_rfl) ?_ 0 (by simp) (by simp)
    intro j hjq IH2
    rw [lpB_eq]
    clear IH
    by_cases hj1 : j < q
    ·have hjl : j < names.length := by omega
     have hbg := hqb j hj1
     have hplt := names[j].place.toNat_lt
     have hBj := fun lent => hB lent _ hplt
     rw [hbg] at hBj
     have hBj' : ∀ lent, pureV E (om E) 113 lent [.pcon [lst ePR s.1, lst eN s.2, .scon (ts.map (lst eW)) 0 s.1.length false] 0, .int .u32 names[j].place.toNat] = some (bb true) := fun lent => by rw [← htl]; exact hBj lent
     simp (disch := omega) [if_pos, if_neg, iteK_pos, iteK_neg, hjl, e1, e2, e3, e4, e5, view_tcellsX, canon_lsts, hcc, htl, hBj']
     exact IH2 (j + 1) _ _ (by omega) (by omega) (by simp)
    ·obtain rfl : j = q := by omega
     by_cases hjl : j < names.length
     ·have hbg := hqk hjl
      have hplt := names[j].place.toNat_lt
      have hBj := fun lent => hB lent _ hplt
      rw [hbg] at hBj
      have hBj' : ∀ lent, pureV E (om E) 113 lent [.pcon [lst ePR s.1, lst eN s.2, .scon (ts.map (lst eW)) 0 s.1.length false] 0, .int .u32 names[j].place.toNat] = some (bb false) := fun lent => by rw [← htl]; exact hBj lent
      have hnb : nameBlk names j = [.row [.str names[j].name, w32 names[j].place.toNat] 0 2 true true] := by unfold nameBlk; rw [List.getElem?_eq_getElem hjl]
      rw [hnb]
      simp (disch := omega) [if_pos, if_neg, iteK_pos, iteK_neg, hjl, e1, e2, e3, e4, e5, view_tcellsX, canon_lsts, hcc, htl, hBj']
     ·simp (disch := omega) [if_pos, if_neg, iteK_pos, iteK_neg, hjl, canon_lsts]
def NamesAt (code : List Instr) (names : List Export) : Prop := ∀ i, (h : i < names.length) → beginsF (cutF code) names[i].place.toNat = true
def aimOut (B : Nat) (s : List PR × List Nat) (ts : List (List Nat)) : List Blk := (aimBlk s ts).map (outBlk B)
theorem aimOut_len (B s ts) : (aimOut B s ts).length = 4 + ts.length := by simp [aimOut]; omega
theorem aim_strip (s ts) : (aimBlk s ts).map stripBlk = aimBlk s ts := by
 have h := tRows_strip ts
 simp [stripL_tCells, h]
theorem FindN_at {names : List Export} (hnl : names.length < 4611686018427387904) {code : List Instr} {jumps : List Nat} (hf : CodeFits code jumps) (h : FindOk code jumps) (hn : NamesAt code names) {a1 a2 a3 : V} {B : List Blk} {r : Heap} (hv : viewArgs (B :: r) [a1, a2, a3] = some [lst eInstr code, lst eW jumps, lst eExport names]) :
  callV E (om E) 58 [a1, a2, a3] (B :: r) = some (.tuple [.pref 0 B.length 0 0, ii 0, ii 0], (B ++ aimOut B.length (cutF code) (tgtN (cutF code) jumps jumps.length)) :: r) := by
 have hb := FindN_body names hnl code jumps hf.ins hf.len hf.words h.enc h.pos h.first code.length jumps.length names.length (Nat.le_refl _) h.faults (by omega) (Nat.le_refl _) h.jumps (by omega) (Nat.le_refl _) hn (fun h => absurd h (by omega))
 unfold findRN at hb
 rw [if_neg (by omega), if_neg (by omega), if_neg (by omega)] at hb
 rw [call_58, hv]
 have hs := aim_strip (cutF code) (tgtN (cutF code) jumps jumps.length)
 unfold aimOut
 generalize aimBlk (cutF code) (tgtN (cutF code) jumps jumps.length) = X at *
 have htop : Heap.top [X] = X := rfl
 simp only [Option.bind_some, hb, htop, hs]
 split <;> simp [Heap.setTop, Heap.top]
def FindNo (code : List Instr) (jumps : List Nat) (names : List Export) (a e : Nat) : Prop := ∀ {a1 a2 a3 : V} {B : List Blk} {r : Heap}, viewArgs (B :: r) [a1, a2, a3] = some [lst eInstr code, lst eW jumps, lst eExport names] → ∃ Y, callV E (om E) 58 [a1, a2, a3] (B :: r) = some (.tuple [.nilptr, ii a, ii e], (B ++ Y) :: r)
theorem findNo {code : List Instr} {jumps : List Nat} {names : List Export} {a e : Nat} {X : List Blk} (hb : bodyV E (om E) 58 [lst eInstr code, lst eW jumps, lst eExport names] [[]] = some (.tuple [.nilptr, ii a, ii e], [X])) : FindNo code jumps names a e := by
 intro a1 a2 a3 B r hv
 refine ⟨X.map (outBlk B.length), ?_⟩
 rw [call_58, hv]
 simp [hb, Heap.setTop, Heap.top]
abbrev procsU (s : List PR × List Nat) (ts : List (List Nat)) : V := .pcon [lst ePR s.1, lst eN s.2, .scon (ts.map (lst eW)) 0 ts.length true] 0
theorem canon_procsU (s ts) : V.canon (procsU s ts) = procsV s ts := by simp [canon_lsts]
theorem view_aim (n : Nat) (B : List Blk) (s : List PR × List Nat) (ts : List (List Nat)) (hl : ts.length = s.1.length) (Y : List Blk) (r : Heap) : V.view (n + 3) ((B ++ (aimOut B.length s ts ++ Y)) :: r) (.pref 0 B.length 0 0) = some (procsU s ts) := by
 have g : ∀ j, (h : j < (aimBlk s ts).length) → (B ++ (aimOut B.length s ts ++ Y))[B.length + j]? = some (outBlk B.length (aimBlk s ts)[j]) := fun j h => by
  rw [List.getElem?_append_right (by omega), Nat.add_sub_cancel_left, List.getElem?_append_left (by rw [aimOut, List.length_map]; exact h)]
  show (List.map (outBlk B.length) (aimBlk s ts))[j]? = _
  rw [List.getElem?_map, List.getElem?_eq_getElem h]; rfl
 have hlen : (aimBlk s ts).length = 4 + ts.length := by simp; omega
 have g0 := g 0 (by omega)
 have g1 := g 1 (by omega)
 have g2 := g 2 (by omega)
 have g3 := g 3 (by omega)
 have gt : ∀ i, (h : i < ts.length) → (B ++ (aimOut B.length s ts ++ Y))[B.length + (i + 4)]? = some (.row (cat eW ts[i]) ts[i].length 1 true true) := fun i h => by
  rw [g (i + 4) (by omega)]
  have e : (aimBlk s ts)[i + 4]'(by omega) = (tRows ts)[i]'(by simpa using h) := rfl
  rw [e]
  have := tRows_get (ts := ts) h
  simp [tRows]
 generalize hH : B ++ (aimOut B.length s ts ++ Y) = H at *
 have ho : V.outL B.length (tCells ts) = (tCells ts).map (V.out B.length) := by
  induction tCells ts with
  | nil => simp
  | cons v l ih => simp [ih]
 have hcells : optMap (V.view (n + 1) (H :: r)) ((tCells ts).map (V.out B.length)) = some (ts.map (lst eW)) := by
  refine optMap_of (by simp) (fun i h h' => ?_)
  have hi : i < ts.length := by simpa using h
  have e1 : (tCells ts)[i]'(by simpa using hi) = .sref 0 (i + 4) 0 ts[i].length ts[i].length (1, false) := by simp [tCells]
  rw [List.getElem_map, e1]
  simp [gt i hi]
 simp at g0 g1 g2 g3
 have hc : cutCells (ts.map (lst eW)) 0 s.1.length 1 = ts.map (lst eW) := cutCells_all _ _ _ (by simp [hl])
 simp [g0, g1, g2, g3, ho, hcells, hc, hl, procsU]
theorem view_aim0 (n : Nat) (s : List PR × List Nat) (ts : List (List Nat)) (hl : ts.length = s.1.length) (Y : List Blk) (r : Heap) : V.view (n + 3) ((aimOut 0 s ts ++ Y) :: r) (.pref 0 0 0 0) = some (procsU s ts) := view_aim n [] s ts hl Y r
end Go.Proofs.YthiciofacaeddaaGreat.Fl
end
section
namespace Go.Proofs.YthiciofacaeddaaGreat.Fl
open Go Go.Sim
set_option maxRecDepth 100000
set_option maxHeartbeats 0
set_option linter.unusedSimpArgs false
set_option linter.unusedVariables false

theorem ProcsTargets (s : List PR × List Nat) (ts : List (List Nat)) (i : Nat) (hi : i < s.1.length) (hl : ts.length = s.1.length) (hj : (ts[i]'(by omega)).length ≤ 35184372087808) : pureV E (om E) 198 false [procsV s ts, ii i] = some (lst eW (ts[i]'(by omega))) := by
 apply pu_198
 have hi2 : i < ts.length := by omega
 by_cases hl0 : ts[i] = []
 ·simp (disch := omega) [if_pos, if_neg, iteK_pos, iteK_neg, Tryz.f198, ProcsProc, hi, hi2, canon_lsts, clone_eW, hl0]
 ·simp (disch := omega) [if_pos, if_neg, iteK_pos, iteK_neg, Tryz.f198, ProcsProc, hi, hi2, canon_lsts, clone_eW, hl0]
abbrev graphV (code : List Instr) (jumps : List Nat) (s : List PR × List Nat) (ts : List (List Nat)) : V := .pcon [lst eInstr code, lst eW jumps, procsV s ts] 0
theorem GInfo (code jumps s ts) (i : Nat) (hi : i < code.length) : pureV E (om E) 185 false [graphV code jumps s ts, ii i] = some (rowV (rowOf code[i].op)) := by
 apply pu_185
 simp (disch := omega) [if_pos, if_neg, iteK_pos, iteK_neg, Tryz.f185, Info, hi, graphV, procsV, canon_lsts]
theorem GFound_ok {code : List Instr} {jumps : List Nat} (hf : CodeFits code jumps) (h : FindOk code jumps) : pureV E (om E) 114 false [lst eInstr code, lst eW jumps] = some (.tuple [graphV code jumps (cutF code) (tgtN (cutF code) jumps jumps.length), ii 0, ii 0]) := by
 apply pu_114
 have hF := fun (B : List Blk) (r : Heap) (a1 a2 a3 : V) (hv : viewArgs (B :: r) [a1, a2, a3] = some [lst eInstr code, lst eW jumps, lst eExport []]) => FindN_at (names := []) (by simp) hf h (fun i h => absurd h (by simp)) hv
 have hl := h.enc.1
 have hj := hf.len
 have e3 : ∀ n : Nat, 4 + n + 2 + 1 - (4 + n) = 3 := fun n => by omega
 have hne : code ≠ [] := by rintro rfl; have := h.pos; simp at this
 have hlen := tgtN_len (cutF code) jumps jumps.length
 have hva := fun n => view_aim0 n (cutF code) (tgtN (cutF code) jumps jumps.length) hlen
 have hal := aimOut_len 0 (cutF code) (tgtN (cutF code) jumps jumps.length)
 generalize tgtN (cutF code) jumps jumps.length = ts at *
 generalize cutF code = s at *
 by_cases hj0 : jumps = []
 ·subst hj0
  rw [lst_nil] at hF ⊢
  simp (disch := omega) [if_pos, if_neg, iteK_pos, iteK_neg, Tryz.f114]
  rw [hF _ _ _ _ _ (by simp)]
  simp (disch := omega) [if_pos, if_neg, iteK_pos, iteK_neg, clone_eI, hne, canon_lsts, graphV, procsV, List.getElem?_append_right, hva, hal, e3, canon_procsU]
 ·simp (disch := omega) [if_pos, if_neg, iteK_pos, iteK_neg, Tryz.f114, clone_eI, clone_eW, hne, hj0, canon_lsts, graphV, procsV]
  rw [hF _ _ _ _ _ (by simp)]
  simp (disch := omega) [if_pos, if_neg, iteK_pos, iteK_neg, clone_eI, clone_eW, hne, hj0, canon_lsts, graphV, procsV, List.getElem?_append_right, hva, hal, e3, canon_procsU]
theorem Compact_ne (x y : Int) (h : x ≠ y) : callV E (om E) 197 [.sref 0 0 0 2 0 (1, true)] [[.row [.int .u32 x, .int .u32 y] 0 1 true true]] = some (.sref 0 0 0 2 0 (1, true), [[.row [.int .u32 x, .int .u32 y] 0 1 true true]]) := by
 rw [call_197]
 have key : bodyV E (om E) 197 (V.upL 1 [.sref 0 0 0 2 0 (1, true)]) ([] :: [[.row [.int .u32 x, .int .u32 y] 0 1 true true]]) = some (.sref 1 0 0 2 0 (1, true), [] :: [[.row [.int .u32 x, .int .u32 y] 0 1 true true]]) := by
  apply bo_197
  simp (disch := omega) [if_pos, if_neg, iteK_pos, iteK_neg, Tryz.f197]
  iterate 2
   apply loop_next (dyn := []) hint_197_0 (by kernel_rfl)
   simp (disch := omega) [if_pos, if_neg, iteK_pos, iteK_neg]
   rw [lpB_eq]
   simp (disch := omega) [if_pos, if_neg, iteK_pos, iteK_neg, h, Ne.symm h]
 rw [key]
 simp
theorem clear_one (x y : Int) : clearV Tryz.prog [[], [.row [.int .u32 x, .int .u32 y] 0 1 true true]] 23 (.sref 1 0 1 1 0 (1, true)) = some (V.undef, [[], [.row [.int .u32 x, .int .u32 0] 0 1 true true]]) := by
 unfold clearV
 rw [show Tryz.prog.underlying 23 = some (.slice 25) by kernel_rfl]
 simp [show zeroV Tryz.prog 25 = some (.int .u32 0) by kernel_rfl, show sizeV Tryz.prog 25 = some 1 by kernel_rfl, rep]
theorem Compact_eq (x : Int) : callV E (om E) 197 [.sref 0 0 0 2 0 (1, true)] [[.row [.int .u32 x, .int .u32 x] 0 1 true true]] = some (.sref 0 0 0 1 0 (1, false), [[.row [.int .u32 x, .int .u32 0] 0 1 true true]]) := by
 rw [call_197]
 have key : bodyV E (om E) 197 (V.upL 1 [.sref 0 0 0 2 0 (1, true)]) ([] :: [[.row [.int .u32 x, .int .u32 x] 0 1 true true]]) = some (.sref 1 0 0 1 0 (1, false), [] :: [[.row [.int .u32 x, .int .u32 0] 0 1 true true]]) := by
  apply bo_197
  simp (disch := omega) [if_pos, if_neg, iteK_pos, iteK_neg, Tryz.f197]
  apply loop_next (dyn := []) hint_197_0 (by kernel_rfl)
  simp (disch := omega) [if_pos, if_neg, iteK_pos, iteK_neg]
  rw [lpB_eq]
  simp (disch := omega) [if_pos, if_neg, iteK_pos, iteK_neg]
  apply loop_next (dyn := []) hint_197_1 (by kernel_rfl)
  simp (disch := omega) [if_pos, if_neg, iteK_pos, iteK_neg]
  rw [lpB_eq]
  simp (disch := omega) [if_pos, if_neg, iteK_pos, iteK_neg]
  rw [clear_one]
  simp (disch := omega) [if_pos, if_neg, iteK_pos, iteK_neg]
 rw [key]
 simp
def nextF (code : List Instr) (s : List PR × List Nat) (ts : List (List Nat)) (i : Nat) : List Nat :=
 let x := code.getD i default
 let k := kindF x.op
 if k = 1 ∨ k = 6 ∨ k = 5 then [i + 1]
 else if k = 2 then (if i + 1 = x.arg then [i + 1] else [min (i + 1) x.arg, max (i + 1) x.arg])
 else if k = 3 then [x.arg]
 else if k = 4 then ts.getD (s.2.getD i 0) []
 else []
theorem GNext (code jumps s ts) (i : Nat) (hi : i < code.length) (hl : code.length ≤ 16384) (h2 : s.2.length = code.length) (ho : ∀ p ∈ s.2, p < s.1.length) (ht : ts.length = s.1.length) (hj : ∀ l ∈ ts, l.length ≤ 35184372087808) :
  pureV E (om E) 186 false [graphV code jumps s ts, ii i] = some (lst eW (nextF code s ts i)) := by
 apply pu_186
 unfold nextF
 rw [getD_lt hi]
 dsimp only
 have hi2 : i < s.2.length := by omega
 have hp : s.2[i] < s.1.length := ho _ (List.getElem_mem hi2)
 have hp2 : s.2[i] < ts.length := by omega
 have hjl := hj _ (List.getElem_mem hp2)
 generalize hk : kindF code[i].op = k
 generalize hx : code[i].arg = a
 have e1 : ((i : Int) + 1) % 4294967296 = i + 1 := by omega
 have e2 : (i : Int) % 4294967296 = i := by omega
 by_cases h1 : k = 1
 ·subst h1; simp (disch := omega) [if_pos, if_neg, iteK_pos, iteK_neg, Tryz.f186, GInfo, kind_eq, hk, hi, hx, e1, e2, canon_lsts, graphV, procsV]
  rfl
 by_cases h6 : k = 6
 ·subst h6; simp (disch := omega) [if_pos, if_neg, iteK_pos, iteK_neg, Tryz.f186, GInfo, kind_eq, hk, hi, hx, e1, e2, canon_lsts, graphV, procsV]
  rfl
 by_cases h5 : k = 5
 ·subst h5; simp (disch := omega) [if_pos, if_neg, iteK_pos, iteK_neg, Tryz.f186, GInfo, kind_eq, hk, hi, hx, e1, e2, canon_lsts, graphV, procsV]
  rfl
 by_cases h2 : k = 2
 ·subst h2
  by_cases hle : i + 1 ≤ a
  ·by_cases heq : i + 1 = a
   ·simp (disch := omega) [if_pos, if_neg, iteK_pos, iteK_neg, Tryz.f186, GInfo, kind_eq, hk, hi, hx, e1, e2, canon_lsts, hle, heq, Compact_eq, graphV, procsV]
    subst heq
    rfl
   ·simp (disch := omega) [if_pos, if_neg, iteK_pos, iteK_neg, Tryz.f186, GInfo, kind_eq, hk, hi, hx, e1, e2, canon_lsts, hle, heq, Compact_ne, graphV, procsV]
    rfl
  ·simp (disch := omega) [if_pos, if_neg, iteK_pos, iteK_neg, Tryz.f186, GInfo, kind_eq, hk, hi, hx, e1, e2, canon_lsts, hle, Compact_ne, graphV, procsV]
   rfl
 by_cases h3 : k = 3
 ·subst h3; simp (disch := omega) [if_pos, if_neg, iteK_pos, iteK_neg, Tryz.f186, GInfo, kind_eq, hk, hi, hx, e1, e2, canon_lsts, graphV, procsV]
  rfl
 by_cases h4 : k = 4
 ·subst h4; simp (disch := omega) [if_pos, if_neg, iteK_pos, iteK_neg, Tryz.f186, GInfo, kind_eq, hk, hi, hx, e1, e2, canon_lsts, ProcsOf, ProcsTargets, hi2, hp, hp2, graphV, procsV]
 simp (disch := omega) [if_pos, if_neg, iteK_pos, iteK_neg, Tryz.f186, GInfo, kind_eq, hk, hi, hx, h1, h2, h3, h4, h5, h6, e1, e2, canon_lsts, graphV, procsV]
end Go.Proofs.YthiciofacaeddaaGreat.Fl
end
