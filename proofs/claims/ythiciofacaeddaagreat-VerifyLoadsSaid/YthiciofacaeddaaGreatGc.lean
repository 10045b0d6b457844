/-
 The document's walk, walked.
 The document's procedures and depths.
-/
import Derived.Test.YthiciofacaeddaaGreatGb
section
namespace Go.Proofs.YthiciofacaeddaaGreat.Fl
open Go Go.Sim
set_option maxRecDepth 100000
set_option maxHeartbeats 0
set_option linter.unusedSimpArgs false
set_option linter.unusedVariables false

def eTf : Enc Bool where
 enc b := [.bool b]
 k := 1
 pos := by omega
 len := fun _ => rfl
 canon := fun _ => by simp
 flat := fun _ => by simp
 ok := fun _ => by simp
@[simp] theorem eTf_k : eTf.k = 1 := rfl
@[simp] theorem eTf_enc (b) : eTf.enc b = [.bool b] := rfl
@[simp] theorem plain_eTf (l) : V.plainL (cat eTf l) = true := cat_plain eTf (fun _ => by simp) l
theorem cat_eTf_map (l : List Bool) : cat eTf l = l.map .bool := by
 induction l with
 | nil => rfl
 | cons x l ih => rw [cat_cons, ih]; rfl
theorem cat_eTf_set (l : List Bool) (i : Nat) (b : Bool) : (cat eTf l).set i (.bool b) = cat eTf (l.set i b) := by
 rw [cat_eTf_map, cat_eTf_map, List.map_set]
theorem eTf_get {l : List Bool} {i : Nat} (h : i < l.length) : (cat eTf l)[i]? = some (.bool l[i]) := by
 rw [cat_eTf_map, List.getElem?_map, List.getElem?_eq_getElem h]; rfl
theorem make_bools (B : List Blk) (r : Heap) (n : Nat) (hn : n ≤ 16384) : makeSliceV Tryz.prog (B :: r) 221 (ii n) (ii n) = some (.sref 0 B.length 0 n 0 (1, true), (B ++ [.row (cat eTf (List.replicate n false)) 0 1 true true]) :: r) := by
 unfold makeSliceV
 rw [show Tryz.prog.underlying 221 = some (.slice 4) by kernel_rfl]
 dsimp only
 rw [show zeroV Tryz.prog 4 = some (.bool false) by kernel_rfl, show bytesV Tryz.prog 4 = some 1 by kernel_rfl, show sizeV Tryz.prog 4 = some 1 by kernel_rfl]
 have hc : V.cells (.bool false) = [.bool false] := rfl
 have hr : List.replicate n (V.bool false) = cat eTf (List.replicate n false) := by rw [cat_eTf_map, List.map_replicate]
 simp only [Option.bind_some, hc, newRow, rep, Int.toNat_natCast, hr]
 rw [if_pos (by simp; omega)]
 simp [Heap.push, Heap.top]
theorem GNext14 {code : List Instr} {jumps : List Nat} (h : FindOk code jumps) (hf : CodeFits code jumps) (hj : jumps.length ≤ 16384) {i : Nat} (hi : i < code.length) : pureV E (om E) 168 false [lst eInstr code, lst eW jumps, ii i] = some (lst eW (nextF code (cutF code) (tgts code jumps) i)) := by
 apply pu_168
 have hl := h.enc.1
 have hin := hf.ins _ (List.getElem_mem hi)
 have hI := fun lent => GInfo13 lent code[i].op hin.1
 have e2 : (i : Int) % 4294967296 = i := by omega
 have e1 : ((i : Int) + 1) % 4294967296 = i + 1 := by omega
 have hO := fun lent => GOf13 lent code i (by omega) hl
 have hT := GTargets13 code jumps (ofG code i) hl hj hf.words
 rw [targets_eq h hi] at hT
 unfold nextF
 rw [getD_lt hi]
 dsimp only
 unfold ofI at hT
 generalize hk : kindF code[i].op = k
 generalize hx : code[i].arg = a
 by_cases h1 : k = 1
 ·subst h1; simp (disch := omega) [if_pos, if_neg, iteK_pos, iteK_neg, Tryz.f168, hI, kind_eq, hk, hi, hx, e1, e2]
  rfl
 by_cases h6 : k = 6
 ·subst h6; simp (disch := omega) [if_pos, if_neg, iteK_pos, iteK_neg, Tryz.f168, hI, kind_eq, hk, hi, hx, e1, e2]
  rfl
 by_cases h5 : k = 5
 ·subst h5; simp (disch := omega) [if_pos, if_neg, iteK_pos, iteK_neg, Tryz.f168, hI, kind_eq, hk, hi, hx, e1, e2]
  rfl
 by_cases h2 : k = 2
 ·subst h2
  by_cases hlt : i + 1 < a
  ·have hne : ¬ i + 1 = a := by omega
   rw [if_neg (by omega), if_pos rfl, if_neg hne, Nat.min_eq_left (by omega), Nat.max_eq_right (by omega)]
   simp (disch := omega) [if_pos, if_neg, iteK_pos, iteK_neg, Tryz.f168, hI, kind_eq, hk, hi, hx, e1, e2, hlt]
   rfl
  ·by_cases hgt : a < i + 1
   ·have hne : ¬ i + 1 = a := by omega
    rw [if_neg (by omega), if_pos rfl, if_neg hne, Nat.min_eq_right (by omega), Nat.max_eq_left (by omega)]
    simp (disch := omega) [if_pos, if_neg, iteK_pos, iteK_neg, Tryz.f168, hI, kind_eq, hk, hi, hx, e1, e2, hlt, hgt]
    rfl
   ·obtain rfl : i + 1 = a := by omega
    rw [if_neg (by omega), if_pos rfl, if_pos rfl]
    simp (disch := omega) [if_pos, if_neg, iteK_pos, iteK_neg, Tryz.f168, hI, kind_eq, hk, hi, hx, e1, e2]
    rfl
 by_cases h3 : k = 3
 ·subst h3; simp (disch := omega) [if_pos, if_neg, iteK_pos, iteK_neg, Tryz.f168, hI, kind_eq, hk, hi, hx, e1, e2]
  rfl
 by_cases h4 : k = 4
 ·subst h4; simp (disch := omega) [if_pos, if_neg, iteK_pos, iteK_neg, Tryz.f168, hI, kind_eq, hk, hi, hx, e1, e2, hO, hT]
 simp (disch := omega) [if_pos, if_neg, iteK_pos, iteK_neg, Tryz.f168, hI, kind_eq, hk, hi, hx, h1, h2, h3, h4, h5, h6, e1, e2]
structure GS where
 m : HM
 W : List Bool
 ds : List Int
 need : Int
 i : Nat
 f : Nat
theorem GWalk14 {code : List Instr} {jumps : List Nat} (h : FindOk code jumps) (hf : CodeFits code jumps) (hj : jumps.length ≤ 16384) {b e : Nat} (hb : b < code.length) (hbe : b < e) (hel : e ≤ code.length) (hend : endF code (b + 1) = e)
  (hnx : ∀ i, b ≤ i → i < e → ∀ x ∈ nextF code (cutF code) (tgts code jumps) i, b ≤ x ∧ x < e)
  (ds : List Int) (hds : ds.length = code.length) (hlow : ∀ v ∈ ds, -1 ≤ v ∧ v ≤ 64) (T : List Blk) (r : Heap) (WW : WR) (hW : walkF code (cutF code) (tgts code jumps) code.length ⟨[(b : Int)], [], 0, true⟩ (ds.set b 0) 0 = WW) :
  callV E (om E) 126 [lst eInstr code, lst eW jumps, ii b, .sref 0 0 0 code.length 0 (1, true)] ((.row (cat eI ds) 0 1 true true :: T) :: r) = some (.tuple [ii WW.need, ii WW.at_, ii WW.e], (.row (cat eI WW.ds) 0 1 true true :: T) :: r) := by
 have hl := h.enc.1
 have hE := fun lent => GEnd13 lent code b hb hl
 rw [hend] at hE
 have hN := fun i (hi : i < code.length) => GNext14 h hf hj hi
 have hbe2 := beginG_le
 apply he_126
 have e0 : ((cat eI ds).set b (ii 0)) = cat eI (ds.set b 0) := cat_eI_set ds b 0
 simp (disch := omega) [if_pos, if_neg, iteK_pos, iteK_neg, Tryz.f126, hb, hds, hE]
 rw [make_bools _ _ _ hl]
 simp (disch := omega) [if_pos, if_neg, iteK_pos, iteK_neg, hb, hds, hE, e0, cat_eTf_set]
 refine loop_chg (dyn := []) (fun a : GS => [(13, ii a.need), (14, ii a.i)]) (fun a => [(0, 0, .row (cat eTf a.W) 0 1 true true), (1, 0, .row (cat eI a.ds) 0 1 true true)]) (fun a => [])
  (fun a => WB code.length b e a.W a.m.w a.ds ∧ (b ≤ a.i ∧ a.i ≤ e) ∧ (∀ j, b ≤ j → j < a.i → a.W.getD j false = false) ∧ (0 ≤ a.need ∧ a.need ≤ 64) ∧ a.m.w.length + neg a.ds ≤ a.f ∧ walkF code (cutF code) (tgts code jumps) a.f a.m a.ds a.need = WW)
  (fun a => a.f * (code.length + 2) + (e - a.i)) hint_126_0 (by kernel_rfl) ?_ ⟨⟨[(b : Int)], [], 0, true⟩, (List.replicate code.length false).set b true, ds.set b 0, 0, b, code.length⟩ ?_ (by simp)
 rotate_left
 ·have hB := WB.first hb hbe hds hlow
  refine ⟨hB, ⟨Nat.le_refl _, by dsimp only; omega⟩, fun j h1 h2 => by dsimp only at h2; omega, by dsimp only; omega, ?_, hW⟩
  have := hB.ok.few
  exact this
 rintro ⟨m, W, ds, need, i, f⟩ ⟨hB, ⟨hib, hie⟩, hno, hneed, hfu, hR⟩ IH
 rw [lpB_eq]
 dsimp only at hB hib hie hno hneed hfu hR ⊢
 clear hlow hds hW hE
 have hWl := hB.len
 have hdl := hB.ok.len
 by_cases hlt : i < e
 ·have hin : i < code.length := by omega
  have hiW : i < W.length := by omega
  by_cases hw : W.getD i false = true
  ·obtain ⟨hw0, hpop, hB'⟩ := hB.pop hin hw hno
   rw [getD_lt hiW] at hw
   have hid : i < ds.length := by omega
   have hpl := popF_len (l := m.w) hw0
   obtain ⟨f, rfl⟩ : ∃ f', f = f' + 1 := Nat.exists_eq_succ_of_ne_zero (by omega)
   rw [walkF, if_neg (by omega)] at hR
   rw [hpop, Int.toNat_natCast, getD_lt hin, getD_lt hid] at hR
   have hlo := hB.ok.low _ (List.getElem_mem hid)
   obtain ⟨k1, k2⟩ := takes_le code[i].op
   have hIi := fun lent => GInfo13 lent code[i].op (hf.ins _ (List.getElem_mem hin)).1
   have hNi := hN i hin
   have hxi := hnx i hib hlt
   have hnl := nextF_len code (cutF code) (tgts code jumps) (fun l hl => Nat.le_trans (tgtN_le _ _ _ l hl) hf.len) i
   clear hN
   generalize hd : ds[i] = d at *
   generalize hT : takesF code[i].op = tk at *
   generalize hG : givesF code[i].op = gv at *
   generalize hK : kindF code[i].op = kd at *
   generalize hL : nextF code (cutF code) (tgts code jumps) i = L at *
   by_cases c1 : d < tk
   ·rw [if_pos c1] at hR
    subst hR
    have u1 : (d < (tk : Int)) = True := eq_true c1
    clear IH
    simp (disch := omega) [if_pos, if_neg, iteK_pos, iteK_neg, hlt, hin, hiW, eTf_get, hw, hIi, eI_get, hid, hd, takes_eq, gives_eq, hT, hG, u1, cat_eTf_set]
   ·rw [if_neg c1] at hR
    have u1 : (d < (tk : Int)) = False := eq_false c1
    by_cases c2 : 64 < d - tk + gv
    ·rw [if_pos c2] at hR
     subst hR
     have u2 : ((64 : Int) < d - tk + gv) = True := eq_true c2
     clear IH
     simp (disch := omega) [if_pos, if_neg, iteK_pos, iteK_neg, hlt, hin, hiW, eTf_get, hw, hIi, eI_get, hid, hd, takes_eq, gives_eq, hT, hG, u1, u2, cat_eTf_set]
    ·rw [if_neg c2] at hR
     have u2 : ((64 : Int) < d - tk + gv) = False := eq_false c2
     have hd0 : 0 ≤ d - tk + gv := by omega
     by_cases c3 : kd = 7 ∧ d ≠ 1
     ·rw [if_pos c3] at hR
      subst hR
      obtain ⟨rfl, c4⟩ := c3
      have u4 : (d = 1) = False := eq_false c4
      clear IH
      simp (disch := omega) [if_pos, if_neg, iteK_pos, iteK_neg, hlt, hin, hiW, eTf_get, hw, hIi, eI_get, hid, hd, takes_eq, gives_eq, kind_eq, hT, hG, hK, u1, u2, u4, cat_eTf_set]
     ·rw [if_neg c3] at hR
      rw [Int.max_assoc] at hR
      have hmx : (if (if need < d then d else need) < d - tk + gv then d - tk + gv else if need < d then d else need) = max need (max d (d - tk + gv)) := by
       simp only [Int.max_def]
       split <;> split <;> split <;> omega
      have fin : ∀ (W' : List Bool) (ds' : List Int) (m' : HM), WB code.length b e W' m'.w ds' → m'.w.length + neg ds' ≤ f → walkF code (cutF code) (tgts code jumps) f m' ds' (max need (max d (d - tk + gv))) = WW →
        (WB code.length b e W' m'.w ds' ∧ (b ≤ b ∧ b ≤ e) ∧ (∀ j, b ≤ j → j < b → W'.getD j false = false) ∧ (0 ≤ max need (max d (d - tk + gv)) ∧ max need (max d (d - tk + gv)) ≤ 64) ∧ m'.w.length + neg ds' ≤ f ∧ walkF code (cutF code) (tgts code jumps) f m' ds' (max need (max d (d - tk + gv))) = WW) ∧ f * (code.length + 2) + (e - b) < (f + 1) * (code.length + 2) + (e - i) := fun W' ds' m' h1 h2 h3 =>
       ⟨⟨h1, ⟨by omega, by omega⟩, fun j h1 h2 => by omega, ⟨by omega, by omega⟩, h2, h3⟩, by rw [Nat.add_mul]; omega⟩
      by_cases c5 : kd = 7
      ·have c4 : d = 1 := Classical.byContradiction fun h => c3 ⟨c5, h⟩
       have hx0 : L = [] := by rw [← hL]; unfold nextF; rw [getD_lt hin]; simp [hK, c5]
       subst hx0
       rw [nextL, if_pos rfl] at hR
       dsimp only at hR
       rw [lst_nil] at hNi
       have u4 : (d = 1) = True := eq_true c4
       have u5 : ((kd : Int) = 7) = True := eq_true (by omega)
       clear c4 c5
       simp (disch := omega) [if_pos, if_neg, iteK_pos, iteK_neg, hlt, hin, hiW, eTf_get, hw, hIi, eI_get, hid, hd, takes_eq, gives_eq, kind_eq, hT, hG, hK, u1, u2, u4, u5, cat_eTf_set, hNi, hmx]
       apply loop_next (dyn := []) hint_126_1 (by kernel_rfl)
       simp (disch := omega) [if_pos, if_neg, iteK_pos, iteK_neg]
       rw [lpB_eq]
       simp (disch := omega) [if_pos, if_neg, iteK_pos, iteK_neg, hmx]
       have hfin := fin _ _ _ hB' (by show (popF m.w).2.length + neg ds ≤ f; omega) hR
       exact IH ⟨m.pop, W.set i false, ds, _, b, f⟩ _ _ hfin.1 hfin.2 (by simp [hmx])
      ·have u5 : ((kd : Int) = 7) = False := eq_false (by omega)
       simp (disch := omega) [if_pos, if_neg, iteK_pos, iteK_neg, hlt, hin, hiW, eTf_get, hw, hIi, eI_get, hid, hd, takes_eq, gives_eq, kind_eq, hT, hG, hK, u1, u2, u5, cat_eTf_set, hNi, hmx]
       refine loop_chg (dyn := []) (fun a : Nat × HM × List Bool × List Int => [(20, ii a.1)]) (fun a => [(0, 0, .row (cat eTf a.2.2.1) 0 1 true true), (1, 0, .row (cat eI a.2.2.2) 0 1 true true)]) (fun _ => [])
        (fun a => a.1 ≤ L.length ∧ WB code.length b e a.2.2.1 a.2.1.w a.2.2.2 ∧ nextL (d - tk + gv) (L.drop a.1) a.2.1 a.2.2.2 = nextL (d - tk + gv) L m.pop ds)
        (fun a => L.length - a.1) hint_126_1 (by kernel_rfl) ?_ (0, m.pop, W.set i false, ds) ⟨by simp, hB', rfl⟩ (by simp)
       rintro ⟨k, mk, Wk, dk⟩ ⟨q1, q2, q4⟩ IH2
       rw [lpB_eq]
       dsimp only at q1 q2 q4 ⊢
       by_cases g1 : k < L.length
       ·have hxk := hxi _ (List.getElem_mem g1)
        rw [List.drop_eq_getElem_cons g1, nextL] at q4
        generalize hx : L[k] = x at *
        have hxn : x < code.length := by omega
        have hdkl := q2.ok.len
        have hWkl := q2.len
        have hxd : x < dk.length := by omega
        have hxW : x < Wk.length := by omega
        rw [getD_lt hxd] at q4
        by_cases g2 : dk[x] < 0
        ·rw [if_pos g2] at q4
         have hnew := q2.push hxn hxk hd0 (by omega) (show dk.getD x 0 < 0 by rw [getD_lt hxd]; exact g2)
         simp (disch := omega) [if_pos, if_neg, iteK_pos, iteK_neg, g1, g2, hx, eI_get, eW_get, hxd, hxn, hxW, cat_eTf_set, cat_eI_set]
         exact IH2 (k + 1, mk.push x, Wk.set x true, dk.set x (d - tk + gv)) _ _ ⟨by dsimp only; omega, hnew, q4⟩ (by dsimp only; omega) (by simp [hmx])
        ·rw [if_neg g2] at q4
         by_cases g3 : dk[x] = d - tk + gv
         ·rw [if_pos g3] at q4
          simp (disch := omega) [if_pos, if_neg, iteK_pos, iteK_neg, g1, g2, g3, hx, eI_get, eW_get, hxd, hxn, hxW]
          exact IH2 (k + 1, mk, Wk, dk) _ _ ⟨by dsimp only; omega, q2, q4⟩ (by dsimp only; omega) (by simp [hmx])
         ·rw [if_neg g3] at q4
          rw [← q4] at hR
          dsimp only at hR
          rw [if_neg (by simp)] at hR
          subst hR
          clear IH IH2 fin
          simp (disch := omega) [if_pos, if_neg, iteK_pos, iteK_neg, g1, g2, g3, hx, eI_get, eW_get, hxd, hxn, hxW]
       ·rw [List.drop_of_length_le (by omega), nextL] at q4
        rw [← q4, if_pos rfl] at hR
        dsimp only at hR
        have hms := nextL_meas (m := m.pop) hd0 (show d - tk + gv ≤ 64 by omega) (fun x hx => by have := hxi x hx; omega) hB'.ok
        rw [← q4] at hms
        dsimp only at hms
        have hfin := fin _ _ _ q2 (by rw [hms.2]; show (popF m.w).2.length + neg ds ≤ f; omega) hR
        simp (disch := omega) [if_pos, if_neg, iteK_pos, iteK_neg, g1, hmx]
        exact IH ⟨mk, Wk, dk, _, b, f⟩ _ _ hfin.1 hfin.2 (by simp [hmx])
  ·rw [getD_lt hiW] at hw
   have hw' : W[i] = false := by simpa using hw
   simp (disch := omega) [if_pos, if_neg, iteK_pos, iteK_neg, hlt, hin, hiW, eTf_get, hw']
   refine IH ⟨m, W, ds, need, i + 1, f⟩ _ _ ⟨hB, ⟨by dsimp only; omega, by dsimp only; omega⟩, fun j h1 h2 => ?_, hneed, hfu, hR⟩ (by dsimp only; omega) (by simp)
   dsimp only at h2
   by_cases hji : j = i
   ·subst hji; rw [getD_lt hiW]; exact hw'
   ·exact hno j h1 (by omega)
 ·obtain rfl : i = e := by omega
  have hm := hB.none hel hno
  have hR' : WW = ⟨need, 0, 0, ds, m, []⟩ := by
   rw [← hR]; cases f with
   | zero => rfl
   | succ f => rw [walkF, if_pos (by rw [hm]; rfl)]
  subst hR'
  clear IH
  simp (disch := omega) [if_pos, if_neg, iteK_pos, iteK_neg, hlt]
end Go.Proofs.YthiciofacaeddaaGreat.Fl
end
section
namespace Go.Proofs.YthiciofacaeddaaGreat.Fl
open Go Go.Sim
set_option maxRecDepth 100000
set_option maxHeartbeats 0
set_option linter.unusedSimpArgs false
set_option linter.unusedVariables false

def procsG (code : List Instr) : Nat → List PR
 | 0 => []
 | n + 1 => procsG code n ++ (if (code.getD n default).op = 3 then [⟨n, endF code (n + 1), (code.getD n default).arg⟩] else [])
theorem procsG_len (code : List Instr) : ∀ n, (procsG code n).length = entersN code n
 | 0 => rfl
 | n + 1 => by rw [procsG, entersN, List.length_append, procsG_len code n]; split <;> rfl
theorem procsG_eq {code : List Instr} (h0 : (code.getD 0 default).op = 3) : ∀ n, n ≤ code.length → procsG code n = (cutF code).1.take (entersN code n)
 | 0, _ => by simp [procsG, entersN]
 | n + 1, hn => by
  have ih := procsG_eq h0 n (by omega)
  have hnl : n < code.length := by omega
  rw [procsG, entersN, ih]
  by_cases h3 : (code.getD n default).op = 3
  ·rw [if_pos h3, if_pos h3]
   have hc : CutOk code code.length (cutF code) := cut_ok h0 code.length
   have ho : ofI (cutF code) n = entersN code n := by
    have := cut_of h0 code.length n hnl
    rw [entersN, if_pos h3] at this
    unfold ofI
    show (cutN code code.length).2.getD n 0 = _
    omega
   have hlt := hc.lt n hnl
   have hb := hc.ent n hnl h3
   have hbb := begin_eq h0 hnl
   have he := end_eq h0 hnl
   have hf := frame_eq h0 hnl
   rw [hb] at hbb
   rw [hbb] at he hf
   rw [ho] at hlt hb he hf
   have : (cutF code).1[entersN code n] = ⟨n, endF code (n + 1), (code.getD n default).arg⟩ := by
    have hp : prOf (cutF code) (entersN code n) = (cutF code).1[entersN code n] := getD_lt hlt
    rw [hp] at hb he hf
    rw [he, ← hf]
    generalize (cutF code).1[entersN code n] = p at *
    cases p; simp only [PR.mk.injEq]; exact ⟨hb, trivial, trivial⟩
   rw [take_snoc hlt, this]
  ·rw [if_neg h3, if_neg h3]; simp
theorem procs_all {code : List Instr} (h0 : (code.getD 0 default).op = 3) : procsG code code.length = (cutF code).1 := by
 rw [procsG_eq h0 _ (Nat.le_refl _), ← cut_enters h0 code.length]
 exact List.take_length
theorem GProcs13_body (code : List Instr) (hl : code.length ≤ 16384) : bodyV E (om E) 68 [lst eInstr code] [[]] = some (.sref 0 0 0 (procsG code code.length).length (procsG code code.length).length (4, false), [[.row (cat ePR (procsG code code.length)) (procsG code code.length).length 4 true true]]) := by
 apply bo_68
 simp (disch := omega) [if_pos, if_neg, iteK_pos, iteK_neg, Tryz.f68]
 refine loop_chg (dyn := []) (fun n : Nat => [(3, .sref 0 0 0 (procsG code n).length (procsG code n).length (4, false)), (4, ii n)]) (fun _ => []) (fun n => [.row (cat ePR (procsG code n)) (procsG code n).length 4 true true]) (fun n => n ≤ code.length) (fun n => code.length - n) hint_68_0 (by kernel_rfl) ?_ 0 (by omega) (by simp [procsG])
 intro n hn IH
 rw [lpB_eq]
 by_cases h : n < code.length
 ·have hE := fun lent => GEnd13 lent code n h hl
  have hel := endF_le (code := code) (i := n + 1) (by omega)
  have hsn : procsG code (n + 1) = procsG code n ++ (if code[n].op = 3 then [⟨n, endF code (n + 1), code[n].arg⟩] else []) := by rw [procsG, getD_lt h]
  have hle : (procsG code n).length ≤ n := by rw [procsG_len]; exact entersN_le code n
  generalize endF code (n + 1) = e at *
  generalize procsG code n = P at *
  by_cases h3 : code[n].op = 3
  ·rw [if_pos h3] at hsn
   simp (disch := omega) [if_pos, if_neg, iteK_pos, iteK_neg, h, h3, hE]
   refine IH (n + 1) _ _ (by omega) (by omega) ?_
   rw [hsn]
   simp [cat_append, cat_cons]
  ·rw [if_neg h3, List.append_nil] at hsn
   simp (disch := omega) [if_pos, if_neg, iteK_pos, iteK_neg, h, h3]
   refine IH (n + 1) _ _ (by omega) (by omega) ?_
   rw [hsn]
   simp
 ·obtain rfl : n = code.length := by omega
  simp (disch := omega) [if_pos, if_neg, iteK_pos, iteK_neg]
theorem GProcs13_at {code : List Instr} (h0 : (code.getD 0 default).op = 3) (hl : code.length ≤ 16384) {a : V} {B : List Blk} {r : Heap} (hv : viewArgs (B :: r) [a] = some [lst eInstr code]) :
  callV E (om E) 68 [a] (B :: r) = some (.sref 0 B.length 0 (cutF code).1.length (cutF code).1.length (4, false), (B ++ [.row (cat ePR (cutF code).1) (cutF code).1.length 4 true true]) :: r) := by
 have hb := GProcs13_body code hl
 rw [procs_all h0] at hb
 rw [call_68, hv]
 simp (disch := omega) [if_pos, if_neg, iteK_pos, iteK_neg, hb]
theorem rep_set {n : Nat} {k : Nat} (hk : k < n) : (List.replicate k (-1 : Int) ++ List.replicate (n - k) 0).set k (-1) = List.replicate (k + 1) (-1) ++ List.replicate (n - (k + 1)) 0 := by
 rw [List.set_append_right _ _ (by simp)]
 obtain ⟨m, hm⟩ : ∃ m, n - k = m + 1 := ⟨n - k - 1, by omega⟩
 rw [List.length_replicate, Nat.sub_self, hm, show n - (k + 1) = m by omega, List.replicate_succ (n := m), List.set_cons_zero, List.replicate_succ' (n := k)]
 simp
noncomputable def depths14 (code : List Instr) (jumps : List Nat) (m : Nat) : V :=
 if m < (cutF code).1.length then .tuple [lst eI [], lst eI [], ii (walkN code (cutF code) (tgts code jumps) m).at_, ii (walkN code (cutF code) (tgts code jumps) m).e]
 else .tuple [lst eI (dsN code (cutF code) (tgts code jumps) (cutF code).1.length), lst eI (needN code (cutF code) (tgts code jumps) (cutF code).1.length), ii 0, ii 0]
theorem GDepths14 {code : List Instr} {jumps : List Nat} (h : FindOk code jumps) (hf : CodeFits code jumps) (hj : jumps.length ≤ 16384) (hFind : ∀ lent, pureV E (om E) 64 lent [lst eInstr code, lst eW jumps, .scon [] 0 0 false] = some (.tuple [ii 0, ii 0]))
  (m : Nat) (hm : m ≤ (cutF code).1.length) (hok : ∀ k, k < m → (walkN code (cutF code) (tgts code jumps) k).e = 0) (hbad : m < (cutF code).1.length → (walkN code (cutF code) (tgts code jumps) m).e ≠ 0) : pureV E (om E) 65 false [lst eInstr code, lst eW jumps] = some (depths14 code jumps m) := by
 have hl := h.enc.1
 have hc : CutOk code code.length (cutF code) := cut_ok h.first code.length
 have hds : ∀ k, k ≤ m → (dsN code (cutF code) (tgts code jumps) k).length = code.length ∧ ∀ v ∈ dsN code (cutF code) (tgts code jumps) k, -1 ≤ v ∧ v ≤ 64 := fun k hk => by
  have := ds_inv hc (next_lt h) k (by omega) (fun i hi => hok i (by omega))
  exact ⟨this.len, this.low⟩
 have hpl : (cutF code).1.length ≤ code.length := (cutN_len code code.length).2
 have hw : ∀ k, (hk : k < (cutF code).1.length) → k ≤ m → ∀ T r, callV E (om E) 126 [lst eInstr code, lst eW jumps, ii (cutF code).1[k].b, .sref 0 0 0 code.length 0 (1, true)] ((.row (cat eI (dsN code (cutF code) (tgts code jumps) k)) 0 1 true true :: T) :: r) =
   some (.tuple [ii (walkN code (cutF code) (tgts code jumps) k).need, ii (walkN code (cutF code) (tgts code jumps) k).at_, ii (walkN code (cutF code) (tgts code jumps) k).e], (.row (cat eI (walkN code (cutF code) (tgts code jumps) k).ds) 0 1 true true :: T) :: r) := fun k hk hkm T r => by
  have hp : prOf (cutF code) k = (cutF code).1[k] := getD_lt hk
  have hpr := hc.pr k hk
  have hcv := hc.conv k hk
  rw [hp] at hpr hcv
  have hbl : (cutF code).1[k].b < code.length := by omega
  have hend := end_eq h.first hbl
  have hbb := begin_eq h.first hbl
  rw [hcv _ (Nat.le_refl _) hpr.1, hp] at hend hbb
  rw [hbb] at hend
  refine GWalk14 h hf hj hbl hpr.1 hpr.2.1 hend (fun i h1 h2 x hx => ?_) _ (hds k hkm).1 (hds k hkm).2 T r _ (by unfold walkN; rw [getD_lt hk])
  have hn := next_in h (i := i) (by omega) x hx
  have hoi := hcv i h1 h2
  have hin := hc.ins x hn.1
  rw [hn.2.1, hoi, hp] at hin
  omega
 have hP := fun (B : List Blk) (r : Heap) => GProcs13_at h.first hl (a := lst eInstr code) (B := B) (r := r) (by simp)
 apply pu_65
 simp (disch := omega) [if_pos, if_neg, iteK_pos, iteK_neg, Tryz.f65, hFind]
 rw [make_ints _ _ _ hl]
 simp (disch := omega) [if_pos, if_neg, iteK_pos, iteK_neg]
 refine loop_chg (dyn := []) (fun n : Nat => [(11, ii n)]) (fun n => [(0, 0, .row (cat eI (List.replicate n (-1) ++ List.replicate (code.length - n) 0)) 0 1 true true)]) (fun n => []) (fun n => n ≤ code.length) (fun n => code.length - n) hint_65_0 (by kernel_rfl) ?_ 0 (by omega) (by simp)
 intro n hn IH
 rw [lpB_eq]
 by_cases hlt : n < code.length
 ·have e1 : ((cat eI (List.replicate n (-1) ++ List.replicate (code.length - n) 0)).set n (ii (-1))) = cat eI (List.replicate (n + 1) (-1) ++ List.replicate (code.length - (n + 1)) 0) := by
   rw [cat_eI_set, rep_set hlt]
  have e2 : (List.replicate n (-1 : Int) ++ List.replicate (code.length - n) 0).length = code.length := by simp; omega
  generalize List.replicate n (-1 : Int) ++ List.replicate (code.length - n) 0 = R at *
  simp (disch := omega) [if_pos, if_neg, iteK_pos, iteK_neg, hlt, e1, e2]
  exact IH (n + 1) _ _ (by omega) (by omega) (by simp)
 ·obtain rfl : n = code.length := by omega
  clear IH
  rw [Nat.sub_self, List.replicate_zero, List.append_nil]
  simp (disch := omega) [if_pos, if_neg, iteK_pos, iteK_neg, hP]
  refine loop_chg (dyn := []) (fun k : Nat => [(13, .sref 0 2 0 (needN code (cutF code) (tgts code jumps) k).length (needN code (cutF code) (tgts code jumps) k).length (1, false)), (14, ii k)]) (fun k => [(0, 0, .row (cat eI (dsN code (cutF code) (tgts code jumps) k)) 0 1 true true)]) (fun k => [.row (cat eI (needN code (cutF code) (tgts code jumps) k)) (needN code (cutF code) (tgts code jumps) k).length 1 true true])
   (fun k => k ≤ m) (fun k => m - k) hint_65_1 (by kernel_rfl) ?_ 0 (by omega) (by simp [needN, dsN])
  intro k hk IH
  rw [lpB_eq]
  have hnl : (needN code (cutF code) (tgts code jumps) k).length = k := by simp [needN]
  have hdl := (hds k hk).1
  by_cases hkm : k < m
  ·have hks : k < (cutF code).1.length := by omega
   have hwk := hw k hks hk
   have hek := hok k hkm
   simp only [← dsN_succ] at hwk
   have hns := needN_succ code (cutF code) (tgts code jumps) k
   have hd1 := hds (k + 1) (by omega)
   have hbl : (cutF code).1[k].b < 4294967296 := by
    have := hc.pr k hks
    have hp : prOf (cutF code) k = (cutF code).1[k] := getD_lt hks
    rw [hp] at this; omega
   simp only [hek] at hwk
   generalize needN code (cutF code) (tgts code jumps) k = Nd at *
   generalize dsN code (cutF code) (tgts code jumps) k = Dk at *
   simp (disch := omega) [if_pos, if_neg, iteK_pos, iteK_neg, hks, ePR_get0, ePR_get1, ePR_get2, ePR_get3, hwk]
   refine IH (k + 1) _ _ (by omega) (by omega) ?_
   rw [hns]
   simp [cat_append, cat_cons]
  ·obtain rfl : k = m := by omega
   clear IH
   unfold depths14
   by_cases hks : k < (cutF code).1.length
   ·have hwk := hw k hks hk
    have hek := hbad hks
    have hbl : (cutF code).1[k].b < 4294967296 := by
     have := hc.pr k hks
     have hp : prOf (cutF code) k = (cutF code).1[k] := getD_lt hks
     rw [hp] at this; omega
    rw [if_pos hks]
    generalize walkN code (cutF code) (tgts code jumps) k = WW at *
    generalize needN code (cutF code) (tgts code jumps) k = Nd at *
    generalize dsN code (cutF code) (tgts code jumps) k = Dk at *
    simp (disch := omega) [if_pos, if_neg, iteK_pos, iteK_neg, hks, ePR_get0, ePR_get1, ePR_get2, ePR_get3, hwk, hek]
   ·obtain rfl : k = (cutF code).1.length := by omega
    rw [if_neg hks]
    simp (disch := omega) [if_pos, if_neg, iteK_pos, iteK_neg]
    exact res_lst eI hdl.symm rfl
end Go.Proofs.YthiciofacaeddaaGreat.Fl
end
