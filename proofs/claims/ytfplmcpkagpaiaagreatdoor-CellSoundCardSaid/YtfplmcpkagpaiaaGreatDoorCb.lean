/-
 fuse.Row, gone through; cell.Translate.
 Plain: a thing fits in its own stretch, too; rows cover their stretch.
 Plain: rows cover their stretch, all rows the code; leaders.
 cell.maps.
-/
import Derived.Test.YtfplmcpkagpaiaaGreatDoorCa
set_option maxRecDepth 100000
set_option maxHeartbeats 0
set_option linter.unusedSimpArgs false
set_option linter.unusedVariables false
section
namespace Go.Proofs.YtfplmcpkagpaiaaGreatDoor.Fl
open Go Go.Sim Go.Sim.Cell
def mkCl (n : Nat) (p : Nat × Shp) : Cl := ⟨n, p.2.len, p.1, p.2.op, p.2.a, p.2.b, 0⟩
def rowL (c : List Instr) (e : Nat) : Nat → Nat → List Cl
 | 0, _ => []
 | m + 1, a => if a < e then (match longF (win c a e) with | .ok p => mkCl a p :: rowL c e m (a + p.2.len) | .error _ => []) else []
theorem rowL_fuel {c : List Instr} {e : Nat} (he : e ≤ c.length) : ∀ (m m' a : Nat), e - a ≤ m → e - a ≤ m' → rowL c e m a = rowL c e m' a
 | 0, 0, a, _, _ => rfl
 | 0, m' + 1, a, h, _ => by rw [rowL, rowL, if_neg (by omega)]
 | m + 1, 0, a, _, h => by rw [rowL, rowL, if_neg (by omega)]
 | m + 1, m' + 1, a, h, h' => by
  rw [rowL, rowL]
  by_cases hlt : a < e
  ·rw [if_pos hlt, if_pos hlt]
   cases hr : longF (win c a e) with
   | ok p =>
    have hp := longF_le hr
    dsimp only
    rw [rowL_fuel he m m' (a + p.2.len) (by omega) (by omega)]
   | error x => rfl
  ·rw [if_neg hlt, if_neg hlt]
theorem rowL_cons {c : List Instr} {a e : Nat} (he : e ≤ c.length) (h : a < e) {p : Nat × Shp} (hr : longF (win c a e) = .ok p) : rowL c e (e - a) a = mkCl a p :: rowL c e (e - (a + p.2.len)) (a + p.2.len) := by
 have hp := longF_le hr
 obtain ⟨m, hm⟩ : ∃ m, e - a = m + 1 := ⟨e - a - 1, by omega⟩
 rw [hm, rowL, if_pos h, hr]
 dsimp only
 rw [rowL_fuel he m (e - (a + p.2.len)) _ (by omega) (by omega)]
theorem RowN {c : List Instr} {a e : Nat} (L : Lies c a e) (hg : ∀ i ∈ c, insBad i = 0) (H : List Cl → List Blk) (h3 : ∀ l, (H l)[3]? = some (.row [.int .u32 a] 0 1 true true)) (h4 : ∀ l, (H l)[4]? = some (.row [.int .u32 e] 0 1 true true))
  (h6 : ∀ l, (H l)[6]? = some (.row (cat eInstr c) 0 2 true true)) (h7 : ∀ l, (H l)[7]? = some (.row [.sref 0 6 0 c.length 0 (2, false)] 0 1 false false)) (l0 : List Cl)
  (step : ∀ x (l : List Cl) (next : Nat) (p : Nat × Shp), l.length + a ≤ next + l0.length → a ≤ next → 1 ≤ p.2.len → next + p.2.len ≤ e → roundV (om E) 1 8 [fusedV next p.1 p.2] [x, H l] = some (bb true, [x, H (l ++ [mkCl next p])])) :
  callV E (om E) 66 [.yield 0 8, .pref 0 3 0 0, .pref 0 4 0 0, .pref 0 7 0 0] [H l0] = some (.tuple [], [H (l0 ++ rowL c e (e - a) a)]) := by
 obtain ⟨ha, he, hea, hc⟩ := L
 apply he_66
 generalize hR : l0 ++ rowL c e (e - a) a = R
 simp (disch := omega) [if_pos, if_neg, iteK_pos, iteK_neg, Tryz.f66, V.upIf, h3]
 refine loop_use (dyn := []) (fun (s : Nat × List Cl) => [.yield 1 8, .pref 1 3 0 0, .pref 1 4 0 0, .pref 1 7 0 0, xx, .int .u32 s.1, xx, xx, .int .u32 a] ++ pois 22)
  (fun s => [[], H s.2]) (fun s => a ≤ s.1 ∧ s.1 ≤ e ∧ s.2.length + a ≤ s.1 + l0.length ∧ R = s.2 ++ rowL c e (e - s.1) s.1) (fun s => e - s.1) hint_66_0 (by kernel_rfl) ?_ (a, l0) ⟨by simp, by dsimp only; omega, by dsimp only; omega, hR.symm⟩ (by simp)
 clear hR
 rintro ⟨next, l⟩ ⟨g1, g2, g3, g4⟩ IH
 dsimp only at g1 g2 g3 g4 ⊢
 rw [lpB_eq]
 by_cases hlt : next < e
 ·have hl := fun lent => Longest lent (c := c) (a := next) (e := e) ⟨hlt, he, hea, hc⟩
  cases hr : longF (win c next e) with
  | ok p =>
   rw [hr] at hl
   rw [rowL_cons he hlt hr] at g4
   have hp := longF_le hr
   rw [win_length he] at hp
   have hst := fun x => step x l next p g3 g1 hp.1 (by omega)
   simp (disch := omega) [if_pos, if_neg, iteK_pos, iteK_neg, V.upIf, hlt, h3, h4, h6, h7, hl, hst]
   refine IH (next + p.2.len, l ++ [mkCl next p]) _ _ ⟨by dsimp only; omega, by dsimp only; omega, by simp; omega, ?_⟩ (by dsimp only; omega) (by simp)
   rw [g4]
   simp
  | error x =>
   exact absurd (hg _ (List.getElem_mem _)) (longF_err hlt he hr).1
 ·have he0 : next = e := by omega
  subst he0
  rw [Nat.sub_self, rowL, List.append_nil] at g4
  clear IH
  subst g4
  simp (disch := omega) [if_pos, if_neg, iteK_pos, iteK_neg, V.upIf, h3, h4, h6, h7]
def rowsL (c : List Instr) : List Nat → List Cl
 | [] => []
 | a :: r => rowL c (r.headD c.length) (r.headD c.length - a) a ++ rowsL c r
def toL (bg : List Nat) (l : List Cl) : List Cl := l.map fun x => { x with to := toF bg x }
theorem eCl_get {l : List Cl} {i f : Nat} {x : Cl} (hf : f < 7) (h : l[i]? = some x) : (cat eCl l)[i * 7 + f]? = (eCl.enc x)[f]? := by
 have := cat_get eCl l i f hf
 rw [h] at this
 exact this
theorem eCl_set : ∀ (l : List Cl) (i : Nat) (v : Nat) (h : i < l.length), (cat eCl l).set (i * 7 + 6) (.int .u32 (v : Int)) = cat eCl (l.set i { l[i] with to := v })
 | [], i, v, h => absurd h (by simp)
 | x :: r, 0, v, _ => by simp [cat_cons]
 | x :: r, i + 1, v, h => by
  have e : (i + 1) * 7 + 6 = (i * 7 + 6) + 1 + 1 + 1 + 1 + 1 + 1 + 1 := by omega
  rw [e]
  simp [cat_cons, eCl_set r i v (by simpa using h)]
abbrev trH (c : List Instr) (a e : Nat) (LB : Blk) (l : List Cl) : List Blk :=
 [.row [.nilslice, .nilslice] 0 2 true true, .row [.sref 0 2 0 l.length l.length (7, false), .nilslice] 0 2 false false, .row (cat eCl l) l.length 7 true true, .row [.int .u32 a] 0 1 true true, .row [.int .u32 e] 0 1 true true,
  .row [] 0 2 true true, .row (cat eInstr c) 0 2 true true, .row [.sref 0 6 0 c.length 0 (2, false)] 0 1 false false, LB]
theorem RowTr {c : List Instr} {a e : Nat} (L : Lies c a e) (hg : ∀ i ∈ c, insBad i = 0) (LB : Blk) (l : List Cl)
  (step : ∀ x (m : List Cl) (next : Nat) (p : Nat × Shp), m.length + a ≤ next + l.length → a ≤ next → 1 ≤ p.2.len → next + p.2.len ≤ e → roundV (om E) 1 8 [fusedV next p.1 p.2] [x, trH c a e LB m] = some (bb true, [x, trH c a e LB (m ++ [mkCl next p])])) :
  callV E (om E) 66 [.yield 0 8, .pref 0 3 0 0, .pref 0 4 0 0, .pref 0 7 0 0] [trH c a e LB l] = some (.tuple [], [trH c a e LB (l ++ rowL c e (e - a) a)]) :=
 RowN L hg (trH c a e LB) (fun _ => rfl) (fun _ => rfl) (fun _ => rfl) (fun _ => rfl) l step
theorem Translate_walk {x : Img} (T : Taken x) {PV : V} (hP : Solid PV) (hg : ∀ i ∈ cF x, insBad i = 0) (hr : (leadL x).Pairwise (· < ·)) (hb : ∀ y ∈ leadL x, y < (cF x).length)
  (hll : (rowsL (cF x) (leadL x)).length ≤ 16384) (hat : ∀ y ∈ rowsL (cF x) (leadL x), y.at_ < (cF x).length) (htg : ∀ y ∈ rowsL (cF x) (leadL x), ∀ t, tgtF y = some t → t < 4294967296) :
  pureV E (om E) 11 false [modX PV x] = some (.tuple [.agg [lst eCl (madeL (cF x).length (rowsL (cF x) (leadL x))), lst eW (begF (cF x).length (rowsL (cF x) (leadL x)))], ii 0]) := by
 have F := taken_facts T
 have hlen := F.len
 have hLd := Leaders_ok T hP
 obtain ⟨hSo, hM, hI⟩ := mod_facts T hP
 have hlc : x.code.length = (cF x).length := by simp [cF]
 have hpos := F.pos
 rw [hlc] at hlen hpos
 unfold imA at hI
 unfold leadL at hr hb hll hat htg ⊢
 have s4 := hSo.settle
 obtain ⟨s1, s2, s3⟩ := hSo
 generalize modX PV x = MX at *
 generalize numsF (leadF x) (mW x) = L at *
 clear hlc F T hM
 generalize hc : cF x = c at *
 generalize hj : jF x = j at *
 have hLl : L.length ≤ 16384 := by
  rcases rising_len L 0 c.length hr (fun y hy => ⟨Nat.zero_le _, hb y hy⟩) with h | h
  ·rw [h]; simp
  ·omega
 have hne : c ≠ [] := by intro h; rw [h] at hpos; exact absurd hpos (by simp)
 generalize hT : rowsL c L = TL at *
 apply pu_11
 simp (disch := omega) [if_pos, if_neg, iteK_pos, iteK_neg, Tryz.f11, s1, s2, s3, hLd, hI]
 refine loop_chg (dyn := []) (fun s : Nat × List Cl => [(27, ii s.1)]) (fun s => [(0, 1, .row [.sref 0 2 0 s.2.length s.2.length (7, false), .nilslice] 0 2 false false)]) (fun s => [.row (cat eCl s.2) s.2.length 7 true true]) (fun s => s.1 ≤ L.length ∧ TL = s.2 ++ rowsL c (L.drop s.1)) (fun s => L.length - s.1) hint_11_0 (by kernel_rfl) ?_ (0, []) ⟨by simp, by simp [hT]⟩ (by simp)
 rintro ⟨i, l⟩ ⟨g1, g2⟩ IH
 dsimp only at g1 g2 ⊢
 rw [lpB_eq]
 by_cases h : i < L.length
 ·rw [List.drop_eq_getElem_cons h, rowsL] at g2
  have ha : L[i] < c.length := hb _ (List.getElem_mem h)
  have hlt : l.length ≤ 16384 := by rw [g2] at hll; simp at hll; omega
  have hrow := fun e (he : e = (L.drop (i + 1)).headD c.length) => Row_at c L[i] e (by omega) hne
  by_cases h2 : i + 1 < L.length
  ·have hea : L[i] < L[i + 1] := List.pairwise_iff_getElem.1 hr i (i + 1) h h2 (by omega)
   have heb : L[i + 1] < c.length := hb _ (List.getElem_mem h2)
   have he : (L.drop (i + 1)).headD c.length = L[i + 1] := by rw [List.drop_eq_getElem_cons h2]; rfl
   have hrow := hrow _ he.symm
   rw [he] at g2
   simp (disch := omega) [if_pos, if_neg, iteK_pos, iteK_neg, h, h2, eW_get, hrow]
   refine range_of hint_11_1 ?_
   simp (disch := omega) [if_pos, if_neg, iteK_pos, iteK_neg]
   rw [RowTr (a := L[i]) (e := L[i + 1]) ⟨hea, by omega, by omega, by omega⟩ hg _ l ?step]
   case step =>
    intro X m next p k1 k2 k3 k4
    have kl : m.length ≤ 32768 := by omega
    clear IH g2
    refine round_eq (dyn := []) rfl rfl (by simp; rfl) (by kernel_rfl) (by kernel_rfl) ?_
    simp (disch := omega) [if_pos, if_neg, iteK_pos, iteK_neg, s4, cat_append, cat_cons, mkCl]
   clear hrow
   simp (disch := omega) [if_pos, if_neg, iteK_pos, iteK_neg, s4]
   refine IH (i + 1, l ++ rowL c (L[i + 1]) (L[i + 1] - L[i]) L[i]) _ _ ⟨by dsimp only; omega, ?_⟩ (by dsimp only; omega) (by simp)
   rw [g2, List.append_assoc]
  ·have he : (L.drop (i + 1)).headD c.length = c.length := by rw [List.drop_eq_nil_of_le (by omega)]; rfl
   have hrow := hrow _ he.symm
   rw [he] at g2
   simp (disch := omega) [if_pos, if_neg, iteK_pos, iteK_neg, h, h2, eW_get, hrow]
   refine range_of hint_11_1 ?_
   simp (disch := omega) [if_pos, if_neg, iteK_pos, iteK_neg]
   rw [RowTr (a := L[i]) (e := c.length) ⟨ha, by omega, by omega, by omega⟩ hg _ l ?step]
   case step =>
    intro X m next p k1 k2 k3 k4
    have kl : m.length ≤ 32768 := by omega
    clear IH g2
    refine round_eq (dyn := []) rfl rfl (by simp; rfl) (by kernel_rfl) (by kernel_rfl) ?_
    simp (disch := omega) [if_pos, if_neg, iteK_pos, iteK_neg, s4, cat_append, cat_cons, mkCl]
   clear hrow
   simp (disch := omega) [if_pos, if_neg, iteK_pos, iteK_neg, s4]
   refine IH (i + 1, l ++ rowL c (c.length) (c.length - L[i]) L[i]) _ _ ⟨by dsimp only; omega, ?_⟩ (by dsimp only; omega) (by simp)
   rw [g2, List.append_assoc]
 ·obtain rfl : i = L.length := by omega
  clear IH
  rw [List.drop_length, rowsL, List.append_nil] at g2
  subst g2
  have hB := fun lent => CBegins lent c.length hlen TL (by omega) hat
  have hml : madeL c.length TL = toL (begF c.length TL) TL := rfl
  rw [hml]
  have hbl : (begF c.length TL).length ≤ 16384 := by simp; exact hlen
  generalize begF c.length TL = bg at *
  simp (disch := omega) [if_pos, if_neg, iteK_pos, iteK_neg, hB]
  refine loop_chg (dyn := []) (fun k : Nat => [(67, ii k)]) (fun k => [(0, 2, .row (cat eCl (toL bg (TL.take k) ++ TL.drop k)) TL.length 7 true true)]) (fun _ => []) (fun k => k ≤ TL.length) (fun k => TL.length - k) hint_11_2 (by kernel_rfl) ?_ 0 (by simp) (by simp [toL])
  intro k hk IH
  rw [lpB_eq]
  by_cases h : k < TL.length
  ·have hto := fun lent => CTo lent TL[k] bg hbl (htg _ (List.getElem_mem h))
   have hlt : (toL bg (TL.take k)).length = k := by simp [toL]; omega
   have hgt : (toL bg (TL.take k) ++ TL.drop k)[k]? = some TL[k] := by rw [List.getElem?_append_right (by omega), hlt, Nat.sub_self, List.getElem?_drop, Nat.add_zero, List.getElem?_eq_getElem h]
   have hlen2 : (toL bg (TL.take k) ++ TL.drop k).length = TL.length := by simp [hlt]; omega
   have hset : (toL bg (TL.take k) ++ TL.drop k).set k { TL[k] with to := toF bg TL[k] } = toL bg (TL.take (k + 1)) ++ TL.drop (k + 1) := by
    rw [List.set_append_right _ _ (by omega), hlt, Nat.sub_self, List.drop_eq_getElem_cons h, List.set_cons_zero, take_snoc h]
    simp only [toL, List.map_append, List.map_cons, List.map_nil, List.append_assoc, List.cons_append, List.nil_append]
   generalize (toL bg (TL.take k) ++ TL.drop k) = M at *
   have hM : M[k]'(by omega) = TL[k] := by rw [List.getElem?_eq_getElem (by omega)] at hgt; simpa using hgt
   have hs := eCl_set M k (toF bg TL[k]) (by omega)
   rw [hM, hset] at hs
   have g0 : (cat eCl M)[k * 7]? = some (.int .u32 TL[k].at_) := eCl_get (f := 0) (by omega) hgt
   have g1 : (cat eCl M)[k * 7 + 1]? = some (.int .u32 TL[k].len) := eCl_get (f := 1) (by omega) hgt
   have g2 : (cat eCl M)[k * 7 + 1 + 1]? = some (.int .u8 TL[k].kind) := eCl_get (f := 2) (by omega) hgt
   have g3 : (cat eCl M)[k * 7 + 1 + 1 + 1]? = some (.int .u8 TL[k].op) := eCl_get (f := 3) (by omega) hgt
   have g4 : (cat eCl M)[k * 7 + 1 + 1 + 1 + 1]? = some (.int .u32 TL[k].a) := eCl_get (f := 4) (by omega) hgt
   have g5 : (cat eCl M)[k * 7 + 1 + 1 + 1 + 1 + 1]? = some (.int .u32 TL[k].b) := eCl_get (f := 5) (by omega) hgt
   have g6 : (cat eCl M)[k * 7 + 1 + 1 + 1 + 1 + 1 + 1]? = some (.int .u32 TL[k].to) := eCl_get (f := 6) (by omega) hgt
   simp (disch := omega) [if_pos, if_neg, iteK_pos, iteK_neg, h, hto, V.upIf, g0, g1, g2, g3, g4, g5, g6]
   rw [hs]
   exact IH (k + 1) _ _ (by omega) (by omega) (by simp)
  ·obtain rfl : k = TL.length := by omega
   clear IH
   simp (disch := omega) [if_pos, if_neg, iteK_pos, iteK_neg]
   exact res_lst eCl (by simp [toL]) rfl
end Go.Proofs.YtfplmcpkagpaiaaGreatDoor.Fl
end
section
namespace Go.Proofs.YtfplmcpkagpaiaaGreatDoor.Fl
open Go Go.Sim Go.Sim.Cell
theorem opF_take (w : List Instr) (n k : Nat) : opF (w.take n) k = if k < n then opF w k else i0 := by
 unfold opF
 rw [List.getElem?_take]
 by_cases h : k < n
 ·rw [if_pos h, if_pos h]
 ·rw [if_neg h, if_neg h]
theorem opF_out {w : List Instr} {n k : Nat} (h : ¬ k < n) : opF (w.take n) k = i0 := by rw [opF_take, if_neg h]
theorem opF_in {w : List Instr} {n k : Nat} (h : k < n) : opF (w.take n) k = opF w k := by rw [opF_take, if_pos h]
theorem foldGo_or : ∀ (w : List Instr) (i : Nat) (l : FL) (b : Nat × Nat × Nat), foldGo w i l b = b ∨ i + 1 ≤ (foldGo w i l b).1
 | [], i, l, b => .inl rfl
 | x :: r, i, l, b => by
  rw [foldGo]; dsimp only
  by_cases h1 : (takeF l x).1 = 1
  ·rw [if_pos h1]; exact .inl rfl
  ·rw [if_neg h1]
   generalize hb2 : (if 0 < i ∧ (takeF l x).2.n = 0 then (if (takeF l x).1 = 2 then (i + 1, 3, x.arg) else (i + 1, 4, 0)) else if 0 < i ∧ (takeF l x).1 = 0 ∧ (takeF l x).2.n = 1 then (i + 1, 2, (takeF l x).2.at_ 0) else b) = b2
   have hor : b2 = b ∨ b2.1 = i + 1 := by
    rw [← hb2]
    repeat' split
    all_goals first | exact .inl rfl | exact .inr rfl
   by_cases h0 : (takeF l x).1 = 0
   ·rw [if_pos h0]
    rcases foldGo_or r (i + 1) (takeF l x).2 b2 with h | h
    ·rw [h]; rcases hor with h | h
     ·exact .inl h
     ·right; omega
    ·right; omega
   ·rw [if_neg h0]; rcases hor with h | h
    ·exact .inl h
    ·right; omega
theorem foldGo_take : ∀ (w : List Instr) (i n : Nat) (l : FL) (b : Nat × Nat × Nat), (foldGo w i l b).1 ≤ i + n → foldGo (w.take n) i l b = foldGo w i l b
 | [], i, n, l, b, _ => by simp
 | x :: r, i, 0, l, b, h => by
  rcases foldGo_or (x :: r) i l b with h1 | h1
  ·rw [h1]; rfl
  ·omega
 | x :: r, i, n + 1, l, b, h => by
  rw [List.take_succ_cons, foldGo]
  rw [foldGo] at h
  conv => rhs; rw [foldGo]
  dsimp only at h ⊢
  by_cases h1 : (takeF l x).1 = 1
  ·rw [if_pos h1, if_pos h1]
  ·rw [if_neg h1] at h ⊢
   rw [if_neg h1]
   by_cases h0 : (takeF l x).1 = 0
   ·rw [if_pos h0] at h ⊢
    rw [if_pos h0]
    exact foldGo_take r (i + 1) n _ _ (by omega)
   ·rw [if_neg h0, if_neg h0]
theorem foldF_take {w : List Instr} {p : Nat × Nat × Nat} (h : foldF w = .ok p) (h1 : 1 ≤ p.1) : foldF (w.take p.1) = .ok p := by
 cases w with
 | nil => simp [foldF] at h
 | cons x r =>
  unfold foldF at h
  dsimp only at h
  split at h
  ·rename_i hx
   simp only [Except.ok.injEq] at h
   obtain ⟨n, hn⟩ : ∃ n, p.1 = n + 1 := ⟨p.1 - 1, by omega⟩
   rw [hn, List.take_succ_cons]
   unfold foldF
   dsimp only
   rw [if_pos hx, ← List.take_succ_cons, foldGo_take (x :: r) 0 (n + 1) _ _ (by rw [h]; omega), h]
  ·cases h
theorem foldedF_take {k : Nat} {w : List Instr} (h : (foldedF k w).len ≠ 0) : foldedF k (w.take (foldedF k w).len) = foldedF k w := by
 unfold foldedF at h ⊢
 cases hf : foldF w with
 | error x => rw [hf] at h; simp [Shp.none] at h
 | ok p =>
  rw [hf] at h
  dsimp only at h ⊢
  by_cases hp : p.2.1 = k ∧ 2 ≤ p.1
  ·rw [if_pos hp]
   dsimp only
   rw [foldF_take hf (by omega)]
   dsimp only
   rw [if_pos hp]
  ·rw [if_neg hp] at h; simp [Shp.none] at h
theorem constF_take {w : List Instr} {f n N : Nat} (h : f + n ≤ N) (hN : N ≤ w.length) : constF (w.take N) f n = constF w f n := by
 have hl : (w.take N).length = N := by simp; omega
 have e : ((w.take N).drop f).take n = (w.drop f).take n := by
  rw [List.drop_take, List.take_take, Nat.min_eq_left (by omega)]
 unfold constF
 rw [hl, e]
 by_cases h1 : n < 1
 ·rw [if_pos (.inl h1), if_pos (.inl h1)]
 ·rw [if_neg (show ¬ (n < 1 ∨ N < f + n) by omega), if_neg (show ¬ (n < 1 ∨ w.length < f + n) by omega)]
  by_cases h2 : n = 1
  ·rw [if_pos h2, if_pos h2, opF_in (by omega)]
  ·rw [if_neg h2, if_neg h2]
theorem behindGo_take {is : Nat → Bool} {o b : Bool} {w : List Instr} (h0 : is 0 = false) : ∀ n, (behindGo is o b w n).len ≠ 0 → behindGo is o b (w.take (behindGo is o b w n).len) n = behindGo is o b w n
 | 0, h => by simp [behindGo, Shp.none] at h
 | n + 1, h => by
  rw [behindGo] at h
  have hle := behindGo_le (o := o) (b := b) (w := w) h0 (n + 1)
  by_cases hc : (constF w 0 (n + 1)).2 = true ∧ is (opF w (n + 1)).op = true
  ·have e : behindGo is o b w (n + 1) = keepF o b ⟨n + 2, 0, (constF w 0 (n + 1)).1, 0⟩ (opF w (n + 1)) := by rw [behindGo]; exact if_pos hc
   have el : (behindGo is o b w (n + 1)).len = n + 2 := by rw [e]; rfl
   rw [el] at hle ⊢
   rw [e, behindGo]
   rw [constF_take (by omega) hle, opF_in (by omega), if_pos hc]
  ·have e : behindGo is o b w (n + 1) = behindGo is o b w n := by rw [behindGo]; exact if_neg hc
   rw [if_neg hc] at h
   rw [e]
   have ih := behindGo_take h0 n h
   have hlt : (behindGo is o b w n).len ≤ n + 1 := by
    have : ∀ m, (behindGo is o b w m).len ≤ m + 1 := by
     intro m
     induction m with
     | zero => simp [behindGo, Shp.none]
     | succ m ihm =>
      rw [behindGo]
      split
      ·exact Nat.le_refl _
      ·omega
    exact this n
   rw [behindGo]
   rw [opF_out (by omega), if_neg (by intro hh; have := hh.2; rw [show (i0).op = 0 from rfl, h0] at this; cases this)]
   exact ih
theorem localF_take {ld : Bool} {is : Nat → Bool} {o b : Bool} {w : List Instr} (h : (localF ld is o b w).len ≠ 0) : localF ld is o b (w.take (localF ld is o b w).len) = localF ld is o b w := by
 cases ld with
 | true =>
  have hc : (opF w 0).op = 9 ∧ is (opF w 2).op = true ∧ (true = true → (opF w 1).op = 31) := Classical.byContradiction fun hc => h (by
   show (if (opF w 0).op = 9 ∧ is (opF w 2).op = true ∧ (true = true → (opF w 1).op = 31) then keepF o b ⟨3, 0, (opF w 0).arg, 0⟩ (opF w 2) else Shp.none).len = 0
   rw [if_neg hc]; rfl)
  have e : localF true is o b w = keepF o b ⟨3, 0, (opF w 0).arg, 0⟩ (opF w 2) := if_pos hc
  rw [e]
  show (if (opF (w.take 3) 0).op = 9 ∧ is (opF (w.take 3) 2).op = true ∧ (true = true → (opF (w.take 3) 1).op = 31) then keepF o b ⟨3, 0, (opF (w.take 3) 0).arg, 0⟩ (opF (w.take 3) 2) else Shp.none) = _
  rw [opF_in (by omega), opF_in (by omega), opF_in (by omega), if_pos hc]
 | false =>
  have hc : (opF w 0).op = 9 ∧ is (opF w 1).op = true ∧ (false = true → (opF w 1).op = 31) := Classical.byContradiction fun hc => h (by
   show (if (opF w 0).op = 9 ∧ is (opF w 1).op = true ∧ (false = true → (opF w 1).op = 31) then keepF o b ⟨2, 0, (opF w 0).arg, 0⟩ (opF w 1) else Shp.none).len = 0
   rw [if_neg hc]; rfl)
  have e : localF false is o b w = keepF o b ⟨2, 0, (opF w 0).arg, 0⟩ (opF w 1) := if_pos hc
  rw [e]
  show (if (opF (w.take 2) 0).op = 9 ∧ is (opF (w.take 2) 1).op = true ∧ (false = true → (opF (w.take 2) 1).op = 31) then keepF o b ⟨2, 0, (opF (w.take 2) 0).arg, 0⟩ (opF (w.take 2) 1) else Shp.none) = _
  rw [opF_in (by omega), opF_in (by omega), if_pos hc]
theorem bumpGo_take {w : List Instr} : ∀ n, (bumpGo w n).len ≠ 0 → bumpGo (w.take (bumpGo w n).len) n = bumpGo w n ∧ 6 ≤ (bumpGo w n).len
 | 0, h => by simp [bumpGo, Shp.none] at h
 | n + 1, h => by
  have hle := bumpGo_le (w := w) (n + 1)
  rw [bumpGo] at h
  by_cases hc : (constF w 3 (n + 1)).2 = true ∧ harmF (opF w (n + 4)).op = true ∧ (opF w (n + 5)).op = 34
  ·have e : bumpGo w (n + 1) = ⟨n + 6, (opF w (n + 4)).op, (opF w 0).arg, (constF w 3 (n + 1)).1⟩ := by rw [bumpGo]; exact if_pos hc
   have el : (bumpGo w (n + 1)).len = n + 6 := by rw [e]
   rw [el] at hle ⊢
   refine ⟨?_, by omega⟩
   rw [e, bumpGo]
   rw [constF_take (by omega) hle, opF_in (by omega), opF_in (by omega), opF_in (by omega), if_pos hc]
  ·have e : bumpGo w (n + 1) = bumpGo w n := by rw [bumpGo]; exact if_neg hc
   rw [if_neg hc] at h
   rw [e]
   have ih := bumpGo_take n h
   refine ⟨?_, ih.2⟩
   have hlt : (bumpGo w n).len ≤ n + 5 := by
    have : ∀ m, (bumpGo w m).len ≤ m + 5 := by
     intro m
     induction m with
     | zero => simp [bumpGo, Shp.none]
     | succ m ihm =>
      rw [bumpGo]
      split
      ·exact Nat.le_refl _
      ·omega
    exact this n
   rw [bumpGo]
   rw [opF_out (k := n + 5) (by omega), if_neg (by intro hh; exact absurd hh.2.2 (by decide))]
   exact ih.1
theorem bumpF_take {w : List Instr} (h : (bumpF w).len ≠ 0) : bumpF (w.take (bumpF w).len) = bumpF w := by
 unfold bumpF at h ⊢
 by_cases hc : (opF w 0).op = 9 ∧ opF w 0 = opF w 1 ∧ (opF w 2).op = 31
 ·rw [if_pos hc] at h ⊢
  obtain ⟨e, h6⟩ := bumpGo_take 16 h
  rw [opF_in (by omega), opF_in (by omega), opF_in (by omega), if_pos hc, e]
 ·rw [if_neg hc] at h; simp [Shp.none] at h
theorem oneS_take {w : List Instr} (h : (oneS w).len ≠ 0) : oneS (w.take (oneS w).len) = oneS w := by
 have e : (oneS w).len = 1 := by
  unfold oneS at h ⊢
  split at h
  ·simp [Shp.none] at h
  ·rename_i hc; rw [if_neg hc]
 rw [e]
 unfold oneS
 rw [opF_in (by omega)]
theorem fitsF_take {w : List Instr} {k : Nat} (h : (fitsF w k).len ≠ 0) : fitsF (w.take (fitsF w k).len) k = fitsF w k := by
 have hb : binF 0 = false := by simp [binF, isOp]
 unfold fitsF at h ⊢
 split at h
 ·exact oneS_take h
 ·exact foldedF_take h
 ·exact foldedF_take h
 ·exact foldedF_take h
 ·exact behindGo_take hb _ h
 ·exact behindGo_take rfl _ h
 ·exact behindGo_take rfl _ h
 ·exact behindGo_take rfl _ h
 ·exact behindGo_take rfl _ h
 ·exact behindGo_take rfl _ h
 ·exact localF_take h
 ·exact localF_take h
 ·exact localF_take h
 ·exact localF_take h
 ·exact bumpF_take h
 ·simp [Shp.none] at h
end Go.Proofs.YtfplmcpkagpaiaaGreatDoor.Fl
end
section
namespace Go.Proofs.YtfplmcpkagpaiaaGreatDoor.Fl
open Go Go.Sim Go.Sim.Cell
theorem longGo_fit (w : List Instr) : ∀ (n k : Nat) (b : Nat × Shp), 1 ≤ k → k + n ≤ 16 → (b = (0, Shp.none) ∨ (1 ≤ b.1 ∧ b.1 ≤ 15 ∧ b.2 = fitsF w b.1)) → (longGo w n k b = (0, Shp.none) ∨ (1 ≤ (longGo w n k b).1 ∧ (longGo w n k b).1 ≤ 15 ∧ (longGo w n k b).2 = fitsF w (longGo w n k b).1))
 | 0, k, b, _, _, h => h
 | n + 1, k, b, h1, h2, h => by
  rw [longGo]
  refine longGo_fit w n (k + 1) _ (by omega) (by omega) ?_
  split
  ·exact .inr ⟨h1, by dsimp only; omega, rfl⟩
  ·exact h
theorem longF_fit {w : List Instr} {p : Nat × Shp} (h : longF w = .ok p) : 1 ≤ p.1 ∧ p.1 ≤ 15 ∧ p.2 = fitsF w p.1 := by
 have hp := (longF_le h).1
 cases w with
 | nil => simp [longF] at h
 | cons x r =>
  unfold longF at h
  dsimp only at h
  split at h
  ·simp only [Except.ok.injEq] at h
   rcases longGo_fit (x :: r) 15 1 (0, Shp.none) (by omega) (by omega) (.inl rfl) with h1 | h1
   ·rw [h] at h1; rw [h1] at hp; simp [Shp.none] at hp
   ·rw [h] at h1; exact h1
  ·cases h
theorem win_take {c : List Instr} {a e n : Nat} (h : a + n ≤ e) : win c a (a + n) = (win c a e).take n := by
 unfold win
 rw [List.take_drop, List.take_take, Nat.min_eq_left h]
theorem cov_row {c : List Instr} (hg : ∀ i ∈ c, insBad i = 0) (ld : Nat → Bool) {e : Nat} (he : e ≤ c.length) : ∀ (d a : Nat), e - a ≤ d → a ≤ e → (∀ k, a < k → k < e → ld k = false) → Cov c ld (rowL c e (e - a) a) a e
 | 0, a, h, h1, _ => by
  obtain rfl : a = e := by omega
  rw [Nat.sub_self]; rfl
 | d + 1, a, h, h1, hl => by
  by_cases hlt : a < e
  ·cases hr : longF (win c a e) with
   | ok p =>
    rw [rowL_cons he hlt hr, Cov]
    have hp := longF_le hr
    rw [win_length he] at hp
    obtain ⟨k1, k2, k3⟩ := longF_fit hr
    refine ⟨⟨rfl, hp.1, by show a + p.2.len ≤ _; omega, fun k q1 q2 => hl k q1 (by have : k < a + p.2.len := q2; omega), ?_⟩, cov_row hg ld he d _ (by show e - (a + p.2.len) ≤ d; omega) (by show a + p.2.len ≤ e; omega) fun k q1 q2 => hl k (by have : a + p.2.len < k := q1; omega) q2⟩
    unfold fitB mkCl
    dsimp only
    refine decide_eq_true ⟨k1, k2, ?_⟩
    rw [win_take (show a + p.2.len ≤ e by omega), k3, fitsF_take (by rw [← k3]; omega)]
   | error x => exact absurd (hg _ (List.getElem_mem _)) (longF_err hlt he hr).1
  ·obtain rfl : a = e := by omega
   rw [Nat.sub_self]; rfl
theorem cov_rows {c : List Instr} (hg : ∀ i ∈ c, insBad i = 0) (ld : Nat → Bool) : ∀ (a : Nat) (r : List Nat), (a :: r).Pairwise (· < ·) → (∀ y ∈ a :: r, y < c.length) → (∀ k, a ≤ k → k < c.length → ld k = true → k ∈ a :: r) → Cov c ld (rowsL c (a :: r)) a c.length
 | a, [], _, hb, hm => by
  rw [rowsL, rowsL, List.append_nil]
  refine cov_row hg ld (Nat.le_refl _) _ a (Nat.le_refl _) (Nat.le_of_lt (hb a (by simp))) fun k h1 h2 => ?_
  have h2 : k < c.length := h2
  cases hk : ld k with
  | false => rfl
  | true => have := hm k (by omega) h2 hk; simp at this; omega
 | a, b :: r, hr, hb, hm => by
  have hr' := List.pairwise_cons.1 hr
  rw [rowsL, cov_app]
  have hab := hr'.1 b (by simp)
  have hbn := hb b (by simp)
  refine ⟨b, cov_row hg ld (Nat.le_of_lt hbn) _ a (Nat.le_refl _) (Nat.le_of_lt hab) (fun k h1 h2 => ?_), cov_rows hg ld b r hr'.2 (fun y hy => hb y (by simp [hy])) fun k h1 h2 h3 => ?_⟩
  ·have h2 : k < b := h2
   cases hk : ld k with
   | false => rfl
   | true =>
    have := hm k (by omega) (by omega) hk
    rw [List.mem_cons] at this
    rcases this with h | h
    ·omega
    ·rcases List.mem_cons.1 h with h | h
     ·omega
     ·have := (List.pairwise_cons.1 hr'.2).1 k h; omega
  ·have := hm k (by omega) h2 h3
   rcases List.mem_cons.1 this with h | h
   ·omega
   ·exact h
theorem addS_le {n : Nat} {p : Nat → Bool} (x : Nat) (h : ∀ k, p k = true → k ≤ n) : ∀ k, addS n p x k = true → k ≤ n := by
 intro k hk
 unfold addS at hk
 split at hk
 ·unfold Cell.put at hk
  simp only [Bool.or_eq_true, decide_eq_true_eq] at hk
  rcases hk with hk | hk
  ·exact h k hk
  ·omega
 ·exact h k hk
theorem addS_mono {n : Nat} {p : Nat → Bool} (x : Nat) {k : Nat} (h : p k = true) : addS n p x k = true := by
 unfold addS
 split
 ·unfold Cell.put; rw [h]; rfl
 ·exact h
theorem addS_new {n : Nat} (p : Nat → Bool) {x : Nat} (h : x ≤ n) : addS n p x x = true := by
 unfold addS
 rw [if_pos (by omega)]
 unfold Cell.put; simp
theorem jmpS_le {n : Nat} : ∀ (l : List Nat) (p : Nat → Bool), (∀ k, p k = true → k ≤ n) → ∀ k, jmpS n l p k = true → k ≤ n
 | [], p, h => h
 | x :: r, p, h => jmpS_le r _ (addS_le x h)
theorem jmpS_mono {n k : Nat} : ∀ (l : List Nat) (p : Nat → Bool), p k = true → jmpS n l p k = true
 | [], p, h => h
 | x :: r, p, h => jmpS_mono r _ (addS_mono x h)
theorem jmpS_mem {n x : Nat} (hx : x ≤ n) : ∀ (l : List Nat) (p : Nat → Bool), x ∈ l → jmpS n l p x = true
 | y :: r, p, h => by
  rw [jmpS]
  rcases List.mem_cons.1 h with h | h
  ·subst h; exact jmpS_mono r _ (addS_new p hx)
  ·exact jmpS_mem hx r _ h
theorem insS_le {n i : Nat} {x : Instr} {p : Nat → Bool} (h : ∀ k, p k = true → k ≤ n) : ∀ k, insS n i x p k = true → k ≤ n := by
 unfold insS
 repeat' split
 ·exact addS_le _ h
 ·exact addS_le _ h
 ·exact addS_le _ h
 ·exact h
theorem insS_mono {n i k : Nat} {x : Instr} {p : Nat → Bool} (h : p k = true) : insS n i x p k = true := by
 unfold insS
 repeat' split
 ·exact addS_mono _ h
 ·exact addS_mono _ h
 ·exact addS_mono _ h
 ·exact h
theorem codS_le {n : Nat} : ∀ (l : List Instr) (i : Nat) (p : Nat → Bool), (∀ k, p k = true → k ≤ n) → ∀ k, codS n l i p k = true → k ≤ n
 | [], i, p, h => h
 | x :: r, i, p, h => codS_le r _ _ (insS_le h)
theorem codS_mono {n k : Nat} : ∀ (l : List Instr) (i : Nat) (p : Nat → Bool), p k = true → codS n l i p k = true
 | [], i, p, h => h
 | x :: r, i, p, h => codS_mono r _ _ (insS_mono h)
theorem codS_mem {n k : Nat} : ∀ (l : List Instr) (i : Nat) (p : Nat → Bool) (m : Nat) (h : m < l.length), (∀ q, insS n (i + m) l[m] q k = true) → codS n l i p k = true
 | x :: r, i, p, 0, h, hq => by rw [codS]; exact codS_mono r _ _ (hq p)
 | x :: r, i, p, m + 1, h, hq => by
  rw [codS]
  refine codS_mem r (i + 1) _ m (by simpa using h) fun q => ?_
  have := hq q
  rw [Nat.add_right_comm]
  exact this
theorem leadS_lt {c : List Instr} {j : List Nat} {k : Nat} (h : leadS c j k = true) : k < c.length := by
 unfold leadS Cell.drop at h
 simp only [Bool.and_eq_true, decide_eq_true_eq] at h
 have := codS_le c 0 _ (jmpS_le j _ (fun k hk => by cases hk)) k h.1
 omega
theorem leadS_of {c : List Instr} {j : List Nat} {k : Nat} (hk : k < c.length) (h : codS c.length c 0 (jmpS c.length j fun _ => false) k = true) : leadS c j k = true := by
 unfold leadS Cell.drop
 rw [h, decide_eq_true (by omega)]; rfl
theorem lead_enter {c : List Instr} {j : List Nat} {i : Nat} (h : i < c.length) (hk : kindF c[i].op = 6) : leadS c j i = true :=
 leadS_of h (codS_mem c 0 _ i h fun q => by unfold insS; rw [if_pos hk, Nat.zero_add]; exact addS_new q (by omega))
theorem lead_goes {c : List Instr} {j : List Nat} {i : Nat} (h : i < c.length) (hk : kindF c[i].op = 3 ∨ kindF c[i].op = 2) (ha : c[i].arg < c.length) : leadS c j c[i].arg = true :=
 leadS_of ha (codS_mem c 0 _ i h fun q => by unfold insS; rw [if_neg (by omega), if_pos hk]; exact addS_new q (by omega))
theorem lead_back {c : List Instr} {j : List Nat} {i : Nat} (h : i < c.length) (hk : kindF c[i].op = 5) (ha : i + 1 < c.length) : leadS c j (i + 1) = true :=
 leadS_of ha (codS_mem c 0 _ i h fun q => by unfold insS; rw [if_neg (by omega), if_neg (by omega), if_pos hk, Nat.zero_add]; exact addS_new q (by omega))
theorem lead_jump {c : List Instr} {j : List Nat} {x : Nat} (h : x ∈ j) (hx : x < c.length) : leadS c j x = true :=
 leadS_of hx (codS_mono c 0 _ (jmpS_mem (by omega) j _ h))
structure FC3 (x : Cl) : Prop where
 at_ : x.at_ < 4294967296
 len : x.len < 4294967296
 kind : x.kind < 256
theorem foldGo_goto {M : Nat} : ∀ (w : List Instr) (i : Nat) (l : FL) (b : Nat × Nat × Nat), (∀ x ∈ w, x.arg < M) → (b.2.1 = 3 → b.2.2 < M) → ((foldGo w i l b).2.1 = 3 → (foldGo w i l b).2.2 < M)
 | [], i, l, b, _, h => h
 | x :: r, i, l, b, hw, h => by
  rw [foldGo]; dsimp only
  by_cases h1 : (takeF l x).1 = 1
  ·rw [if_pos h1]; exact h
  ·rw [if_neg h1]
   generalize hb2 : (if 0 < i ∧ (takeF l x).2.n = 0 then (if (takeF l x).1 = 2 then (i + 1, 3, x.arg) else (i + 1, 4, 0)) else if 0 < i ∧ (takeF l x).1 = 0 ∧ (takeF l x).2.n = 1 then (i + 1, 2, (takeF l x).2.at_ 0) else b) = b2
   have hor : b2.2.1 = 3 → b2.2.2 < M := by
    rw [← hb2]
    repeat' split
    ·intro _; exact hw x (by simp)
    ·intro hh; exact absurd hh (by show ¬ (4 = 3); decide)
    ·intro hh; exact absurd hh (by show ¬ (2 = 3); decide)
    ·exact h
   by_cases h0 : (takeF l x).1 = 0
   ·rw [if_pos h0]; exact foldGo_goto r (i + 1) _ _ (fun y hy => hw y (by simp [hy])) hor
   ·rw [if_neg h0]; exact hor
theorem opF_arg {M : Nat} (hM : 0 < M) {w : List Instr} (hw : ∀ x ∈ w, x.arg < M) (n : Nat) : (opF w n).arg < M := by
 unfold opF
 cases h : w[n]? with
 | none => exact hM
 | some i =>
  dsimp only
  split
  ·exact hw i (List.mem_of_getElem? h)
  ·exact hM
theorem keepF_b {M : Nat} (hM : 0 < M) {o : Bool} {f : Shp} {i : Instr} (hi : i.arg < M) : (keepF o true f i).b < M := by unfold keepF; exact hi
theorem behind_b {M : Nat} (hM : 0 < M) {is : Nat → Bool} {o : Bool} {w : List Instr} (hw : ∀ x ∈ w, x.arg < M) : ∀ n, (behindGo is o true w n).b < M
 | 0 => hM
 | n + 1 => by
  rw [behindGo]
  split
  ·exact keepF_b hM (opF_arg hM hw _)
  ·exact behind_b hM hw n
theorem tgt_lt {M : Nat} (hM : 0 < M) {c : List Instr} (hc : ∀ x ∈ c, x.arg < M) {x : Cl} (h : fitB c x = true) {t : Nat} (ht : tgtF x = some t) : t < M := by
 unfold fitB at h
 obtain ⟨h1, h2, h3⟩ := of_decide_eq_true h
 have hw : ∀ y ∈ win c x.at_ (x.at_ + x.len), y.arg < M := by
  intro y hy
  unfold win at hy
  exact hc y (List.mem_of_mem_take (List.mem_of_mem_drop hy))
 generalize win c x.at_ (x.at_ + x.len) = w at *
 unfold tgtF at ht
 by_cases k3 : x.kind = 3
 ·rw [if_pos k3] at ht
  simp only [Option.some.injEq] at ht
  rw [k3] at h3
  have ha : x.a = (fitsF w 3).a := by rw [h3]
  rw [← ht, ha]
  show (foldedF 3 w).a < M
  unfold foldedF
  cases hf : foldF w with
  | error e => exact hM
  | ok p =>
   dsimp only
   split
   ·rename_i hp
    dsimp only
    cases w with
    | nil => simp [foldF] at hf
    | cons y r =>
     unfold foldF at hf
     dsimp only at hf
     split at hf
     ·simp only [Except.ok.injEq] at hf
      have := foldGo_goto (y :: r) 0 FL.nil (1, 1, 0) hw (by intro hh; exact absurd hh (by decide))
      rw [hf] at this
      exact this hp.1
     ·cases hf
   ·exact hM
 ·rw [if_neg k3] at ht
  by_cases k6 : x.kind = 6 ∨ x.kind = 14
  ·rw [if_pos k6] at ht
   simp only [Option.some.injEq] at ht
   rw [← ht]
   rcases k6 with k6 | k6
   ·rw [k6] at h3
    have hb : x.b = (fitsF w 6).b := by rw [h3]
    rw [hb]
    exact behind_b hM hw 16
   ·rw [k6] at h3
    have hb : x.b = (fitsF w 14).b := by rw [h3]
    rw [hb]
    show (localF true isCmpF true true w).b < M
    show (if (opF w 0).op = 9 ∧ isCmpF (opF w 2).op = true ∧ (true = true → (opF w 1).op = 31) then keepF true true ⟨3, 0, (opF w 0).arg, 0⟩ (opF w 2) else Shp.none).b < M
    by_cases hcc : (opF w 0).op = 9 ∧ isCmpF (opF w 2).op = true ∧ (true = true → (opF w 1).op = 31)
    ·rw [if_pos hcc]; exact keepF_b hM (opF_arg hM hw _)
    ·rw [if_neg hcc]; exact hM
  ·rw [if_neg k6] at ht
   by_cases k1 : x.kind = 1 ∧ (kindF x.op = 3 ∨ kindF x.op = 2)
   ·rw [if_pos k1] at ht
    simp only [Option.some.injEq] at ht
    rw [k1.1] at h3
    have ha : x.a = (oneS w).a := by have : fitsF w 1 = oneS w := rfl; rw [← this, h3]
    rw [← ht, ha]
    unfold oneS
    split
    ·exact hM
    ·exact opF_arg hM hw 0
   ·rw [if_neg k1] at ht; cases ht
theorem cov_mem {c : List Instr} {ld : Nat → Bool} {e : Nat} : ∀ (l : List Cl) {m : Nat}, Cov c ld l m e → ∀ x ∈ l, m ≤ x.at_ ∧ 0 < x.len ∧ x.at_ + x.len ≤ e ∧ x.at_ + x.len ≤ c.length ∧ fitB c x = true
 | y :: r, m, h, x, hx => by
  have hl := cov_le c ld r h.2
  rcases List.mem_cons.1 hx with h1 | h1
  ·subst h1
   have := h.1.at_; have := h.1.pos; have := h.1.le
   exact ⟨by omega, by omega, by omega, by omega, h.1.fit⟩
  ·obtain ⟨a1, a2, a3, a4, a5⟩ := cov_mem r h.2 x h1
   exact ⟨by omega, a2, a3, a4, a5⟩
theorem cov_len {c : List Instr} {ld : Nat → Bool} {e : Nat} : ∀ (l : List Cl) {m : Nat}, Cov c ld l m e → l.length + m ≤ e
 | [], m, h => by have : m = e := h; simp; omega
 | y :: r, m, h => by have := cov_len r h.2; have := h.1.pos; simp; omega
theorem fit_kind {c : List Instr} {x : Cl} (h : fitB c x = true) : 1 ≤ x.kind ∧ x.kind ≤ 15 := by
 unfold fitB at h
 obtain ⟨h1, h2, h3⟩ := of_decide_eq_true h
 exact ⟨h1, h2⟩
end Go.Proofs.YtfplmcpkagpaiaaGreatDoor.Fl
end
section
namespace Go.Proofs.YtfplmcpkagpaiaaGreatDoor.Fl
open Go Go.Sim Go.Sim.Cell
theorem CMaps (lent) (l : List Cl) (bg : List Nat) (n : Nat) (whole : Bool) (hn : n ≤ 16384) (hl : l.length < 17592186044416) (hbg : bg.length < 70368744177664)
  (hw : whole = true → l.length ≤ 16384 ∧ ∀ y ∈ l, y.at_ < n) (htg : ∀ y ∈ l, ∀ t, tgtF y = some t → t < 4294967296) :
  pureV E (om E) 26 lent [.agg [lst eCl l, lst eW bg], bb whole, ii n] = some (.tuple [ii (mapsF n l bg whole).1, ii (mapsF n l bg whole).2]) := by
 unfold mapsF
 apply pu_26
 cases whole with
 | false => simp (disch := omega) [if_pos, if_neg, iteK_pos, iteK_neg, Tryz.f26]
 | true =>
  obtain ⟨hl2, hat⟩ := hw rfl
  have hB := fun lent => CBegins lent n hn l (by omega) hat
  have hol : (begF n l).length = n := by simp
  rw [if_pos rfl]
  generalize begF n l = own at *
  subst hol
  by_cases hlen : own.length = bg.length
  ·have hlen' := eq_true (show (own.length : Int) = bg.length by omega)
   generalize hR : (if own = bg then tosGo own l 0 else (l.length, 233)) = R
   simp (disch := omega) [if_pos, if_neg, iteK_pos, iteK_neg, Tryz.f26, hB, hlen']
   refine loop_chg (dyn := []) (fun i : Nat => [(32, ii i)]) (fun _ => []) (fun _ => []) (fun i => i ≤ own.length ∧ own.take i = bg.take i) (fun i => own.length - i) hint_26_0 (by kernel_rfl) ?_ 0 (by simp) (by simp)
   rintro i ⟨hi, hpre⟩ IH
   rw [lpB_eq]
   by_cases h : i < own.length
   ·have h2 : i < bg.length := by omega
    by_cases he : own[i] = bg[i]
    ·have he' := eq_true (show (own[i] : Int) = bg[i] by omega)
     simp (disch := omega) [if_pos, if_neg, iteK_pos, iteK_neg, h, h2, he', eW_get]
     refine IH (i + 1) _ _ ⟨by omega, ?_⟩ (by omega) (by simp)
     rw [take_snoc h, take_snoc h2, hpre, he]
    ·have he' : ¬ (own[i] : Int) = bg[i] := by omega
     have hne : ¬ own = bg := fun h => he (by simp only [h])
     rw [if_neg hne] at hR
     clear IH
     simp (disch := omega) [if_pos, if_neg, iteK_pos, iteK_neg, h, h2, he', eW_get, ← hR]
   ·obtain rfl : i = own.length := by omega
    clear IH
    rw [List.take_length, hlen, List.take_length] at hpre
    rw [if_pos hpre] at hR
    clear hlen' hlen hpre hB
    simp (disch := omega) [if_pos, if_neg, iteK_pos, iteK_neg]
    refine loop_chg (dyn := []) (fun i : Nat => [(52, ii i)]) (fun _ => []) (fun _ => []) (fun i => i ≤ l.length ∧ tosGo own (l.drop i) i = R) (fun i => l.length - i) hint_26_1 (by kernel_rfl) ?_ 0 (by simp [hR]) (by simp)
    rintro i ⟨hi, hto⟩ IH
    rw [lpB_eq]
    by_cases h : i < l.length
    ·have ht := fun lent => CTo lent l[i] own hn (htg _ (List.getElem_mem h))
     rw [List.drop_eq_getElem_cons h, tosGo] at hto
     by_cases he : l[i].to = toF own l[i]
     ·rw [if_pos he] at hto
      have he' := eq_true (show (l[i].to : Int) = toF own l[i] by omega)
      simp (disch := omega) [if_pos, if_neg, iteK_pos, iteK_neg, h, ht, he']
      exact IH (i + 1) _ _ ⟨by omega, hto⟩ (by omega) (by simp)
     ·rw [if_neg he] at hto
      have he' : ¬ (l[i].to : Int) = toF own l[i] := by omega
      clear IH
      simp (disch := omega) [if_pos, if_neg, iteK_pos, iteK_neg, h, ht, he', ← hto]
    ·obtain rfl : i = l.length := by omega
     clear IH
     rw [List.drop_length, tosGo] at hto
     simp (disch := omega) [if_pos, if_neg, iteK_pos, iteK_neg, ← hto]
  ·have hne : ¬ own = bg := fun h => hlen (by rw [h])
   have hlen' : ¬ (own.length : Int) = bg.length := by omega
   rw [if_neg hne]
   simp (disch := omega) [if_pos, if_neg, iteK_pos, iteK_neg, Tryz.f26, hB, hlen']
end Go.Proofs.YtfplmcpkagpaiaaGreatDoor.Fl
end
