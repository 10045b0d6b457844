/-
 The document's Target, to, begins, Made.
 CellApart: the law's walk.
-/
import Derived.Test.YtfplmcpkagpaiaaGreatDoorCb
import Derived.Test.YtfplmcpkagpaiaaGreatDoorRt
import Derived.Test.YtfplmcpkagpaiaaGreatDoorCc
import Derived.Test.YtfplmcpkagpaiaaGreatDoorVe
import Derived.Test.YtfplmcpkagpaiaaGreatDoorVf
set_option maxRecDepth 100000
set_option maxHeartbeats 0
set_option linter.unusedSimpArgs false
set_option linter.unusedVariables false
section
namespace Go.Proofs.YtfplmcpkagpaiaaGreatDoor.Fl
open Go Go.Sim Go.Sim.Cell
theorem RTarget (lent) (x : Cl) (hop : x.op < 256) : pureV E (om E) 65 lent [fuV x] = some (.tuple [.int .u32 (tgV x), bb (tgtF x).isSome]) := by
 have hinf := fun lent => RInfoN lent x.op hop
 have hkd := kind_eq x.op
 unfold tgV tgtF
 rw [← hkd]
 generalize (rowOf x.op) = R at *
 apply pu_65
 by_cases h1 : x.kind = 1
 ·by_cases k3 : R.kind = 3
  ·simp (disch := omega) [if_pos, if_neg, iteK_pos, iteK_neg, Tryz.f65, h1, hinf, k3]
  ·have j3 : ¬ (R.kind : Int) = 3 := by omega
   by_cases k2 : R.kind = 2
   ·simp (disch := omega) [if_pos, if_neg, iteK_pos, iteK_neg, Tryz.f65, h1, hinf, k2]
   ·have j2 : ¬ (R.kind : Int) = 2 := by omega
    simp (disch := omega) [if_pos, if_neg, iteK_pos, iteK_neg, Tryz.f65, h1, hinf, j3, j2, k3, k2]
 ·have i1 : ¬ (x.kind : Int) = 1 := by omega
  by_cases h3 : x.kind = 3
  ·simp (disch := omega) [if_pos, if_neg, iteK_pos, iteK_neg, Tryz.f65, hinf, h3]
  ·have i3 : ¬ (x.kind : Int) = 3 := by omega
   by_cases h6 : x.kind = 6
   ·simp (disch := omega) [if_pos, if_neg, iteK_pos, iteK_neg, Tryz.f65, hinf, h6]
   ·have i6 : ¬ (x.kind : Int) = 6 := by omega
    by_cases h14 : x.kind = 14
    ·simp (disch := omega) [if_pos, if_neg, iteK_pos, iteK_neg, Tryz.f65, hinf, h14]
    ·have i14 : ¬ (x.kind : Int) = 14 := by omega
     simp (disch := omega) [if_pos, if_neg, iteK_pos, iteK_neg, Tryz.f65, hinf, i3, i6, i14, i1, h3, h6, h14, h1]
theorem RTo (lent) (x : Cl) (hop : x.op < 256) (o : List Nat) (ho : o.length ≤ 16384) (hf : ∀ t, tgtF x = some t → t < 4294967296) : pureV E (om E) 29 lent [fuV x, lst eW o] = some (.int .u32 (toF o x)) := by
 have hT := fun lent => RTarget lent x hop
 unfold toF
 apply pu_29
 cases ht : tgtF x with
 | none =>
  rw [ht] at hT
  simp (disch := omega) [if_pos, if_neg, iteK_pos, iteK_neg, Tryz.f29, hT]
 | some t =>
  rw [ht, tgV_some ht] at hT
  have h32 := hf t ht
  by_cases hl : t < o.length
  ·simp (disch := omega) [if_pos, if_neg, iteK_pos, iteK_neg, Tryz.f29, hT, hl, eW_get, getD_lt hl]
  ·simp (disch := omega) [if_pos, if_neg, iteK_pos, iteK_neg, Tryz.f29, hT, hl, getD_ge (show o.length ≤ t by omega)]
abbrev mdB (l : List Cl) : List Blk := [.row [.nilslice, .nilslice] 0 2 true true, .row [.sref 0 2 0 l.length l.length (7, false), .nilslice] 0 2 false false, .row (cat eCl l) l.length 7 true true]
theorem eCl_get0 {l : List Cl} {i f : Nat} {x : Cl} (hf : f < 7) (h : l[i]? = some x) : (cat eCl l)[i * 7 + f]? = (eCl.enc x)[f]? := by
 have := cat_get eCl l i f hf
 rw [h] at this
 exact this
theorem begF_snoc {n : Nat} {l : List Cl} {k : Nat} (h : k < l.length) : begF n (l.take (k + 1)) = (begF n (l.take k)).set l[k].at_ k := by
 have hb := begGo_snoc l[k] (l.take k) 0 (List.replicate n 4294967295)
 rw [← take_snoc h, List.length_take, Nat.min_eq_left (by omega), Nat.zero_add] at hb
 exact hb
def ownF (n : Nat) (l : List Cl) (k i : Nat) : Nat := (begF n (l.take k)).getD i 0
theorem ownF_zero {n i : Nat} (l : List Cl) (h : i < n) : ownF n l 0 i = 4294967295 := by
 unfold ownF
 rw [List.take_zero, getD_lt (by simp; exact h)]
 simp [begF, begGo]
theorem ownF_hit {n i k : Nat} {l : List Cl} (hi : i < n) (h : k < l.length) (he : l[k].at_ = i) : ownF n l (k + 1) i = k := by
 unfold ownF
 rw [begF_snoc h, he, getD_lt (by simp; omega)]; simp
theorem ownF_miss {n i k : Nat} {l : List Cl} (hi : i < n) (h : k < l.length) (he : l[k].at_ ≠ i) : ownF n l (k + 1) i = ownF n l k i := by
 unfold ownF
 rw [begF_snoc h, getD_lt (by simp; omega), getD_lt (by simp; omega), List.getElem_set, if_neg he]
theorem ownF_end {n i : Nat} {l : List Cl} (hi : i < n) : (begF n l).take (i + 1) = (begF n l).take i ++ [ownF n l l.length i] := by
 unfold ownF
 rw [List.take_length, take_snoc (by simp; exact hi), getD_lt (by simp; exact hi)]
theorem RBegins_at (n : Nat) (hn : n ≤ 16384) (l : List Cl) (hl : l.length ≤ 16384) (hat : ∀ y ∈ l, y.at_ < 4294967296) : callV E (om E) 28 [.sref 0 2 0 l.length l.length (7, false), ii n] [mdB l] =
  some (.sref 0 3 0 n n (1, false), [mdB l ++ [.row (cat eW (begF n l)) n 1 true true]]) := by
 rw [call_28]
 apply bo_28
 simp (disch := omega) [if_pos, if_neg, iteK_pos, iteK_neg, Tryz.f28]
 refine loop_chg (dyn := []) (fun i : Nat => [(5, .sref 0 3 0 i i (1, false)), (6, ii i)]) (fun _ => []) (fun i => [.row (cat eW ((begF n l).take i)) i 1 true true]) (fun i => i ≤ n) (fun i => n - i) hint_28_0 (by kernel_rfl) ?_ 0 (by simp) (by simp)
 intro i hi IH
 rw [lpB_eq]
 by_cases h : i < n
 ·simp (disch := omega) [if_pos, if_neg, iteK_pos, iteK_neg, h]
  refine loop_chg (dyn := []) (fun k : Nat => [(7, .int .u32 (ownF n l k i : Nat)), (8, ii k)]) (fun _ => []) (fun _ => []) (fun k => k ≤ l.length) (fun k => l.length - k) hint_28_1 (by kernel_rfl) ?_ 0 (by simp) ?_
  ·intro k hk IH2
   rw [lpB_eq]
   by_cases h2 : k < l.length
   ·have g0 : (cat eCl l)[k * 7]? = some (.int .u32 l[k].at_) := eCl_get0 (f := 0) (by omega) (List.getElem?_eq_getElem h2)
    have ha := hat _ (List.getElem_mem h2)
    by_cases he : l[k].at_ = i
    ·have he' : (l[k].at_ : Int) = i := by omega
     clear IH
     have hv := ownF_hit h h2 he
     simp (disch := omega) [if_pos, if_neg, iteK_pos, iteK_neg, h2, V.upIf, g0, he']
     refine IH2 (k + 1) _ _ (by omega) (by omega) ?_
     rw [hv]
     simp
    ·have he' : ¬ (l[k].at_ : Int) = i := by omega
     clear IH
     have hv := ownF_miss h h2 he
     simp (disch := omega) [if_pos, if_neg, iteK_pos, iteK_neg, h2, V.upIf, g0, he']
     refine IH2 (k + 1) _ _ (by omega) (by omega) ?_
     rw [hv]
     simp
   ·obtain rfl : k = l.length := by omega
    clear IH2
    have hv := ownF_end (l := l) h
    have hbl := begF_len n l
    simp (disch := omega) [if_pos, if_neg, iteK_pos, iteK_neg]
    refine IH (i + 1) _ _ (by omega) (by omega) ?_
    have hv2 : cat eW ((begF n l).take (i + 1)) = cat eW ((begF n l).take i) ++ [.int .u32 (ownF n l l.length i : Nat)] := by rw [hv, cat_append]; simp [cat_cons]
    rw [hv2]
    simp [List.take_take]
  ·rw [ownF_zero l h]
   simp
 ·obtain rfl : i = n := by omega
  clear IH
  simp (disch := omega) [if_pos, if_neg, iteK_pos, iteK_neg]
  rw [List.take_of_length_le (by simp)]
def eFu : Enc Cl where
 enc x := [.int .u32 x.at_, .int .u32 x.len, .int .u8 x.kind, .int .u8 x.op, .int .u32 x.a, .int .u32 x.b]
 k := 6
 pos := by omega
 len := fun _ => rfl
 canon := fun _ => by simp
 flat := fun _ => by simp
 ok := fun _ => by simp
@[simp] theorem eFu_k : eFu.k = 6 := rfl
@[simp] theorem eFu_enc (x) : eFu.enc x = [.int .u32 x.at_, .int .u32 x.len, .int .u8 x.kind, .int .u8 x.op, .int .u32 x.a, .int .u32 x.b] := rfl
@[simp] theorem take_eFu (l) (n : Nat) : (cat eFu l).take (n * 6) = cat eFu (l.take n) := cat_take eFu l n
@[simp] theorem cut_eFu (l : List Cl) : cutCells (cat eFu l) 0 l.length 6 = cat eFu l := cut_all eFu rfl rfl
@[simp] theorem fold_eFu (l : List Cl) : V.scon (cat eFu l) 0 l.length false = lst eFu l := rfl
theorem RMade (lent) (n : Nat) (hn : n ≤ 16384) (l : List Cl) (hl : l.length ≤ 16384) (h0 : ∀ y ∈ l, y.to = 0) (hat : ∀ y ∈ l, y.at_ < 4294967296) (hop : ∀ y ∈ l, y.op < 256) (htg : ∀ y ∈ l, ∀ t, tgtF y = some t → t < 4294967296) :
  pureV E (om E) 10 lent [lst eFu l, ii n] = some (.agg [lst eCl (madeL n l), lst eW (begF n l)]) := by
 have hB := RBegins_at n hn l hl hat
 apply pu_10
 simp (disch := omega) [if_pos, if_neg, iteK_pos, iteK_neg, Tryz.f10]
 refine loop_chg (dyn := []) (fun i : Nat => [(6, ii i)]) (fun i => [(0, 1, .row [.sref 0 2 0 i i (7, false), .nilslice] 0 2 false false)]) (fun i => [.row (cat eCl (l.take i)) i 7 true true]) (fun i => i ≤ l.length) (fun i => l.length - i) hint_10_0 (by kernel_rfl) ?_ 0 (by simp) (by simp)
 intro i hi IH
 rw [lpB_eq]
 by_cases h : i < l.length
 ·have ht0 := h0 _ (List.getElem_mem h)
  simp (disch := omega) [if_pos, if_neg, iteK_pos, iteK_neg, h]
  refine IH (i + 1) _ _ (by omega) (by omega) ?_
  have hv : cat eCl (l.take (i + 1)) = cat eCl (l.take i) ++ eCl.enc l[i] := by rw [take_snoc h, cat_append]; simp [cat_cons]
  rw [hv]
  simp [List.take_take, ht0]
 ·obtain rfl : i = l.length := by omega
  clear IH
  simp (disch := omega) [if_pos, if_neg, iteK_pos, iteK_neg, hB]
  have hml : madeL n l = toL (begF n l) l := rfl
  rw [hml]
  have hbl : (begF n l).length ≤ 16384 := by simp; exact hn
  have hbn : (begF n l).length = n := by simp
  generalize begF n l = bg at *
  refine loop_chg (dyn := []) (fun k : Nat => [(7, ii k)]) (fun k => [(0, 2, .row (cat eCl (toL bg (l.take k) ++ l.drop k)) l.length 7 true true)]) (fun _ => []) (fun k => k ≤ l.length) (fun k => l.length - k) hint_10_1 (by kernel_rfl) ?_ 0 (by simp) (by simp [toL])
  intro k hk IH
  rw [lpB_eq]
  have hcw : V.scon (V.canonL (cutCells (cat eW bg) 0 n 1)) 0 n false = lst eW bg := res_lst eW hbn.symm rfl
  by_cases h : k < l.length
  ·have hto := fun lent => RTo lent l[k] (hop _ (List.getElem_mem h)) bg hbl (htg _ (List.getElem_mem h))
   have hlt : (toL bg (l.take k)).length = k := by simp [toL]; omega
   have hgt : (toL bg (l.take k) ++ l.drop k)[k]? = some l[k] := by rw [List.getElem?_append_right (by omega), hlt, Nat.sub_self, List.getElem?_drop, Nat.add_zero, List.getElem?_eq_getElem h]
   have hlen2 : (toL bg (l.take k) ++ l.drop k).length = l.length := by simp [hlt]; omega
   have hset : (toL bg (l.take k) ++ l.drop k).set k { l[k] with to := toF bg l[k] } = toL bg (l.take (k + 1)) ++ l.drop (k + 1) := by
    rw [List.set_append_right _ _ (by omega), hlt, Nat.sub_self, List.drop_eq_getElem_cons h, List.set_cons_zero, take_snoc h]
    simp only [toL, List.map_append, List.map_cons, List.map_nil, List.append_assoc, List.cons_append, List.nil_append]
   generalize (toL bg (l.take k) ++ l.drop k) = M at *
   have hM : M[k]'(by omega) = l[k] := by rw [List.getElem?_eq_getElem (by omega)] at hgt; simpa using hgt
   have hs := eCl_set M k (toF bg l[k]) (by omega)
   rw [hM, hset] at hs
   simp (disch := omega) [if_pos, if_neg, iteK_pos, iteK_neg, h, hto, V.upIf, hcw]
   rw [hs]
   exact IH (k + 1) _ _ (by omega) (by omega) (by simp)
  ·obtain rfl : k = l.length := by omega
   clear IH
   simp (disch := omega) [if_pos, if_neg, iteK_pos, iteK_neg, hcw]
   exact res_lst eCl (by simp [toL]) rfl
end Go.Proofs.YtfplmcpkagpaiaaGreatDoor.Fl
end
section
namespace Go.Proofs.YtfplmcpkagpaiaaGreatDoor.Fl
open Go Go.Sim Go.Sim.Cell
theorem Pick (lent) (x : Int) (hx : -9223372036854775808 ≤ x ∧ x ≤ 9223372036854775807) (n : Nat) (hn : 1 ≤ n) (hn' : n < 2 ^ 60) : ∃ k : Nat, k < n ∧ pureV E (om E) 8 lent [.int .i64 x, ii n] = some (ii k) := by
 have g1 := Int.tmod_lt_of_pos x (b := n) (by omega)
 have g2 := Int.lt_tmod_of_pos x (b := n) (by omega)
 by_cases h : x.tmod n < 0
 ·refine ⟨(x.tmod n + n).toNat, by omega, ?_⟩
  apply pu_8
  simp (disch := omega) [if_pos, if_neg, iteK_pos, iteK_neg, Tryz.f8, h]
  omega
 ·refine ⟨(x.tmod n).toNat, by omega, ?_⟩
  apply pu_8
  simp (disch := omega) [if_pos, if_neg, iteK_pos, iteK_neg, Tryz.f8, h]
  omega
theorem eq_nilM (op : BinOp) (b : Bool) (hop : op = .eql ∧ b = true ∨ op = .neq ∧ b = false) (x y : Operand) : binO E op 33 x y .nilptr .nilptr = some (.bool b) := by
 have h : E.P.underlying 33 = some (.pointer 83) := by kernel_rfl
 rcases hop with ⟨rfl, rfl⟩ | ⟨rfl, rfl⟩
 ·show binV E .eql 33 .nilptr .nilptr = _
  unfold binV
  simp [eqV, h]
 ·show binV E .neq 33 .nilptr .nilptr = _
  unfold binV
  simp [eqV, h]
theorem NCount (lent) : pureV E (om E) 58 lent [.nilptr] = some (ii 0) := by
 have hA : pureV E (om E) 27 false [.nilptr] = some (.pcon [.nilptr, .scon [] 0 0 false, .scon [] 0 0 false, .scon [] 0 0 false, .scon [] 0 0 false, .scon [] 0 0 false, .scon [] 0 0 false, .int .u32 0, .int .u32 0, .scon [] 0 0 false, ii 0, .int .u64 0] 0) := by
  apply pu_27
  simp (disch := omega) [if_pos, if_neg, iteK_pos, iteK_neg, Tryz.f27, eq_nilM .eql true (.inl ⟨rfl, rfl⟩)]
 apply pu_58
 simp (disch := omega) [if_pos, if_neg, iteK_pos, iteK_neg, Tryz.f58, hA]
theorem NLeaders (B : List Blk) : callV E (om E) 22 [.nilptr] [B] = some (.tuple [.nilptr, ii 1], [B]) := by
 have hb : bodyV E (om E) 22 [.nilptr] [[]] = some (.tuple [.nilptr, ii 1], [[]]) := by
  apply bo_22
  simp (disch := omega) [if_pos, if_neg, iteK_pos, iteK_neg, Tryz.f22, NCount]
 rw [call_22]
 simp (disch := omega) [if_pos, if_neg, iteK_pos, iteK_neg, hb]
theorem NCheck (l : List Cl) (bg : List Nat) : pureV E (om E) 7 false [.nilptr, .agg [lst eCl l, lst eW bg]] = some (.tuple [ii 0, ii 1]) := by
 apply pu_7
 simp (disch := omega) [if_pos, if_neg, iteK_pos, iteK_neg, Tryz.f7, NLeaders]
theorem MAtF {x : Img} (T : Taken x) {PV : V} (hP : Solid PV) (lent : Bool) {i : Nat} (h : i < (cF x).length) : pureV E (om E) 9 lent [modX PV x, .int .u32 i] = some (.tuple [insV ((cF x).getD i i0), bb true]) := by
 have F := taken_facts T
 have hi : i < x.code.length := by rw [← code_len]; exact h
 have := MAt hP (nF x) (dF x) x (bitsI x) (digestP x) lent F.len i hi
 rw [this, getD_lt h]
 simp [cF, fl]
theorem cat_eFu_to (f : Cl → Nat) : ∀ l : List Cl, cat eFu (l.map fun x => { x with to := f x }) = cat eFu l
 | [] => rfl
 | x :: r => by rw [List.map_cons, cat_cons, cat_cons, cat_eFu_to f r]; rfl
theorem lst_eFu_to (f : Cl → Nat) (l : List Cl) : lst eFu (l.map fun x => { x with to := f x }) = lst eFu l := by
 unfold lst
 rw [cat_eFu_to, List.length_map]
theorem ones_op {c : List Instr} (hc : ∀ i ∈ c, i.op < 256) (m : Nat) : ∀ n, ∀ y ∈ ones c m n, y.op < 256
 | 0, y, hy => by cases hy
 | n + 1, y, hy => by
  rw [ones, List.mem_append] at hy
  rcases hy with hy | hy
  ·exact ones_op hc m n y hy
  ·rw [List.mem_singleton] at hy
   subst hy
   show (c.getD (m + n) i0).op < 256
   by_cases h : m + n < c.length
   ·rw [getD_lt h]; exact hc _ (List.getElem_mem h)
   ·rw [getD_ge (by omega)]; decide
theorem things_op {c : List Instr} {l : List Cl} {k : Nat} (hl : ∀ y ∈ l, y.op < 256) (hc : ∀ i ∈ c, i.op < 256) : ∀ n, ∀ y ∈ things c l k n, y.op < 256
 | 0, y, hy => by cases hy
 | n + 1, y, hy => by
  rw [things, List.mem_append] at hy
  rcases hy with hy | hy
  ·exact things_op hl hc n y hy
  ·split at hy
   ·exact ones_op hc _ _ y hy
   ·rw [List.mem_singleton] at hy
    subst hy
    by_cases h : n < l.length
    ·rw [getD_lt h]; exact hl _ (List.getElem_mem h)
    ·rw [getD_ge (by omega)]; decide
theorem things_len {c : List Instr} {l : List Cl} {k n : Nat} (hl : ∀ y ∈ l, y.len ≤ n) : ∀ i, i ≤ l.length → (things c l k i).length ≤ i + (if k < i then n else 0)
 | 0, _ => by simp [things]
 | i + 1, h => by
  have ih := things_len (c := c) (k := k) hl i (by omega)
  have hy := hl _ (List.getElem_mem (show i < l.length by omega))
  rw [things, List.length_append, getD_lt (by omega)]
  by_cases hk : i = k
  ·rw [if_pos hk, ones_len]
   rw [if_neg (by omega)] at ih
   rw [if_pos (by omega)]
   omega
  ·rw [if_neg hk]
   simp only [List.length_singleton]
   by_cases h2 : k < i
   ·rw [if_pos h2] at ih; rw [if_pos (by omega)]; omega
   ·rw [if_neg h2] at ih; rw [if_neg (by omega)]; omega
theorem Apart_loop {x : Img} (T : Taken x) {PV : V} (hP : Solid PV) {l : List Cl} {bg : List Nat} (hl : l.length < 17592186044416) (hbg : bg.length < 70368744177664) (hx : ∀ y ∈ l, FC3 y) (hop : ∀ y ∈ l, y.op < 256) (htg : ∀ y ∈ l, ∀ t, tgtF y = some t → t < 4294967296)
  (hTk : pureV E (om E) 6 false [imgV x] = some (.tuple [modX PV x, ii 0, ii 0])) (w : Int) (hw : -9223372036854775808 ≤ w ∧ w ≤ 9223372036854775807) :
  pureV E (om E) 3 false [imgV x, .agg [lst eCl l, lst eW bg], ii w] = some (bb true) := by
 have hL := Lives
 have hC := CCheck T hP l bg hl hbg hx htg
 by_cases he : (checkC (cF x) (leadF x) l bg).2 = 0
 ·have hcov := checkC_cov he
  have F := taken_facts T
  have hpos := F.pos
  rw [← code_len] at hpos
  have hlen := F.len
  rw [← code_len] at hlen
  have hne : 0 < l.length := by
   cases l with
   | nil => have h0 : 0 = (cF x).length := hcov; omega
   | cons y r => simp
  have hll := cov_len l hcov
  obtain ⟨k, hk, hp⟩ := Pick false w hw l.length (by omega) (by omega)
  have hth := cov_things (code_good T) (leadF x) l k l.length (cF x).length (Nat.le_refl _) (by rw [List.take_length]; exact hcov)
  have hl3 := cov_len _ hth
  obtain ⟨z, hz⟩ : ∃ z, z = (things (cF x) l k l.length).map fun y => { y with to := (fun _ => 0) y } := ⟨_, rfl⟩
  have hcz : Cov (cF x) (leadF x) z 0 (cF x).length := by rw [hz]; exact cov_to _ _ (fun _ => 0) _ hth
  have hzl : z.length = (things (cF x) l k l.length).length := by rw [hz, List.length_map]
  have hm := cov_mem _ hcz
  have hzop : ∀ y ∈ z, y.op < 256 := by
   intro y hy
   rw [hz] at hy
   obtain ⟨u, hu, rfl⟩ := List.mem_map.1 hy
   exact things_op hop (fun i hi => ((fits_fl T.chk).ins i hi).1) l.length u hu
  have hMd := fun lent => RMade lent (cF x).length hlen z (by rw [hzl]; omega) (by intro y hy; rw [hz] at hy; obtain ⟨u, _, rfl⟩ := List.mem_map.1 hy; rfl) (fun y hy => (fc3_of T hcz y hy).1) hzop (tgt_of T hcz)
  have hCz := Check_made T hP hcz
  have hez : lst eFu z = lst eFu (things (cF x) l k l.length) := by rw [hz]; exact lst_eFu_to _ _
  rw [hez] at hMd
  have hAt := fun lent (i : Nat) (h : i < (cF x).length) => MAtF T hP lent h
  have hcell : ∀ i, (h : i < l.length) → l[i].at_ + l[i].len ≤ (cF x).length := fun i h => (cov_mem _ hcov _ (List.getElem_mem h)).2.2.1
  have h3 : ∀ i, (h : i < l.length) → FC3 l[i] := fun i h => hx _ (List.getElem_mem h)
  obtain ⟨hSo, hM, hI⟩ := mod_facts T hP
  have s4 := hSo.settle
  obtain ⟨s1, s2, s3⟩ := hSo
  have hlc := code_len x
  generalize modX PV x = MX at *
  clear hI hM htg hop hx hm hzop hcz
  generalize cF x = c at *
  have hne' : ¬ l = [] := by intro h; rw [h] at hne; exact absurd hne (by simp)
  generalize checkC c (leadF x) l bg = R at *
  obtain ⟨R1, R2⟩ := R
  dsimp only at he hC
  subst he
  apply pu_3
  simp (disch := omega) [if_pos, if_neg, iteK_pos, iteK_neg, Tryz.f3, hL, hTk, hC, s1, s2, s3, hne, hp]
  have hth3 : ∀ i, i ≤ l.length → (things c l k i).length ≤ 40000 := fun i hi => by
   have := things_len (c := c) (k := k) (l := l) (n := c.length) (fun y hy => by obtain ⟨i, hi, rfl⟩ := List.getElem_of_mem hy; have := hcell i hi; omega) i hi
   split at this <;> omega
  refine loop_chg (dyn := []) (fun i : Nat => [(13, .sref 0 2 0 (things c l k i).length (things c l k i).length (6, false)), (14, ii i)]) (fun _ => []) (fun i => [.row (cat eFu (things c l k i)) (things c l k i).length 6 true true]) (fun i => i ≤ l.length) (fun i => l.length - i) hint_3_0 (by kernel_rfl) ?_ 0 (by simp) (by simp [things])
  intro i hi IH
  rw [lpB_eq]
  by_cases h : i < l.length
  ·have ht3 := hth3 i hi
   have hts : things c l k (i + 1) = things c l k i ++ (if i = k then ones c (l.getD i default).at_ (l.getD i default).len else [l.getD i default]) := rfl
   rw [getD_lt h] at hts
   have hy3 := h3 i h
   have hce := hcell i h
   have hgi : l[i]? = some l[i] := List.getElem?_eq_getElem h
   have g0 : (cat eCl l)[i * 7]? = some (.int .u32 l[i].at_) := eCl_get (f := 0) (by omega) hgi
   have g1 : (cat eCl l)[i * 7 + 1]? = some (.int .u32 l[i].len) := eCl_get (f := 1) (by omega) hgi
   have g2 : (cat eCl l)[i * 7 + 1 + 1]? = some (.int .u8 l[i].kind) := eCl_get (f := 2) (by omega) hgi
   have g3 : (cat eCl l)[i * 7 + 1 + 1 + 1]? = some (.int .u8 l[i].op) := eCl_get (f := 3) (by omega) hgi
   have g4 : (cat eCl l)[i * 7 + 1 + 1 + 1 + 1]? = some (.int .u32 l[i].a) := eCl_get (f := 4) (by omega) hgi
   have g5 : (cat eCl l)[i * 7 + 1 + 1 + 1 + 1 + 1]? = some (.int .u32 l[i].b) := eCl_get (f := 5) (by omega) hgi
   obtain ⟨y, hyd⟩ : ∃ y, l[i] = y := ⟨_, rfl⟩
   rw [hyd] at hts hy3 hce g0 g1 g2 g3 g4 g5
   obtain ⟨L, hLd⟩ : ∃ L, things c l k i = L := ⟨_, rfl⟩
   rw [hLd] at hts ht3
   rw [hLd]
   by_cases hik : i = k
   ·subst hik
    rw [if_pos rfl] at hts
    simp (disch := omega) [if_pos, if_neg, iteK_pos, iteK_neg, h, hyd, g0, g1, g2, g3, g4, g5, V.upIf, s4]
    refine loop_chg (dyn := []) (fun j : Nat => [(13, .sref 0 2 0 (L ++ ones c y.at_ j).length (L ++ ones c y.at_ j).length (6, false)), (16, .int .u32 j)]) (fun j => [(0, 2, .row (cat eFu (L ++ ones c y.at_ j)) (L ++ ones c y.at_ j).length 6 true true)]) (fun _ => []) (fun j => j ≤ y.len) (fun j => y.len - j) hint_3_1 (by kernel_rfl) ?_ 0 (by simp) (by simp [ones])
    intro j hj IH2
    rw [lpB_eq]
    have hol := ones_len c y.at_ j
    obtain ⟨M, hMd2⟩ : ∃ M, M = L ++ ones c y.at_ j := ⟨_, rfl⟩
    have hml : M.length ≤ 80000 := by rw [hMd2, List.length_append, hol]; omega
    rw [← hMd2]
    by_cases hlt : j < y.len
    ·have hA := fun lent => hAt lent (y.at_ + j) (by omega)
     have e1 : ((y.at_ + j : Nat) : Int) = (y.at_ : Int) + j := by omega
     simp only [e1] at hA
     have hon : L ++ ones c y.at_ (j + 1) = M ++ [⟨y.at_ + j, 1, 1, (c.getD (y.at_ + j) i0).op, (c.getD (y.at_ + j) i0).arg, 0, 0⟩] := by rw [hMd2, List.append_assoc]; rfl
     generalize c.getD (y.at_ + j) i0 = I at *
     have hv : cat eFu (L ++ ones c y.at_ (j + 1)) = cat eFu M ++ [.int .u32 ((y.at_ : Int) + j), .int .u32 1, .int .u8 1, .int .u8 I.op, .int .u32 I.arg, .int .u32 0] := by rw [hon, cat_append]; simp [cat_cons]
     have hv2 : (L ++ ones c y.at_ (j + 1)).length = M.length + 1 := by rw [hon]; simp
     clear IH
     simp (disch := omega) [if_pos, if_neg, iteK_pos, iteK_neg, hlt, hA, s1, s2, s3, s4, V.upIf]
     refine IH2 (j + 1) _ _ (by omega) (by omega) ?_
     rw [hv, hv2]
     simp
    ·obtain rfl : j = y.len := by omega
     clear IH2
     simp (disch := omega) [if_pos, if_neg, iteK_pos, iteK_neg, s4]
     refine IH (i + 1) _ _ (by omega) (by omega) ?_
     rw [hts, ← hMd2]
     simp
   ·have hik' : ¬ (i : Int) = k := by omega
    rw [if_neg hik] at hts
    simp (disch := omega) [if_pos, if_neg, iteK_pos, iteK_neg, h, hyd, hik', g0, g1, g2, g3, g4, g5, V.upIf, s4]
    refine IH (i + 1) _ _ (by omega) (by omega) ?_
    have hv : cat eFu (L ++ [y]) = cat eFu L ++ [.int .u32 y.at_, .int .u32 y.len, .int .u8 y.kind, .int .u8 y.op, .int .u32 y.a, .int .u32 y.b] := by rw [cat_append]; simp [cat_cons]
    rw [hts, hv]
    simp
  ·obtain rfl : i = l.length := by omega
   clear IH
   obtain ⟨L, hLd⟩ : ∃ L, things c l k l.length = L := ⟨_, rfl⟩
   rw [hLd] at hMd
   rw [hLd]
   simp only [hlc] at hMd hCz
   simp (disch := omega) [if_pos, if_neg, iteK_pos, iteK_neg, hMd, hCz, s1, s2, s3, s4]
 ·have he' : ¬ ((checkC (cF x) (leadF x) l bg).2 : Int) = 0 := by omega
  obtain ⟨hSo, hM, hI⟩ := mod_facts T hP
  have s4 := hSo.settle
  obtain ⟨s1, s2, s3⟩ := hSo
  generalize modX PV x = MX at *
  generalize (checkC (cF x) (leadF x) l bg) = R at *
  apply pu_3
  simp (disch := omega) [if_pos, if_neg, iteK_pos, iteK_neg, Tryz.f3, hL, hTk, hC, he', s1, s2, s3]
  exact he
theorem CellApart (x : Img) (h1 : x.code.length < 2 ^ 63) (h2 : x.jumps.length < 2 ^ 63) (h3 : x.data.length < 2 ^ 63) (h4 : x.names.length < 2 ^ 63) {l : List Cl} {bg : List Nat} (hl : l.length < 17592186044416) (hbg : bg.length < 70368744177664) (hx : ∀ y ∈ l, FCl y)
  (w : Int) (hw : -9223372036854775808 ≤ w ∧ w ≤ 9223372036854775807) : pureV E (om E) 3 false [imgV x, .agg [lst eCl l, lst eW bg], ii w] = some (bb true) := by
 by_cases T : Taken x
 ·refine Apart_loop T (procs_solid (sF x) (tsF x)) hl hbg (fun y hy => ⟨(hx y hy).at_, (hx y hy).len, (hx y hy).kind⟩) (fun y hy => (hx y hy).op) (fun y hy t ht => ?_) (Take_ok x T) w hw
  have := hx y hy
  have h5 := this.a
  have h6 := this.b
  unfold tgtF at ht
  repeat' split at ht
  all_goals simp at ht
  all_goals omega
 ·obtain ⟨a, e, he, hT⟩ := Take_bad x h1 h2 h3 h4 T
  have hT := hT false
  have hL := Lives
  have hC := NCheck l bg
  apply pu_3
  simp (disch := omega) [if_pos, if_neg, iteK_pos, iteK_neg, Tryz.f3, hL, hT, hC, he]
end Go.Proofs.YtfplmcpkagpaiaaGreatDoor.Fl
end
