/-
 cell.leaders.
 cell.Leaders.
 cell.target, cell.to, cell.begins; the document's Target, to.
-/
import Derived.Test.YtfplmcpkagpaiaaGreatDoorFf
import Derived.Test.YtfplmcpkagpaiaaGreatDoorVa
import Derived.Test.YtfplmcpkagpaiaaGreatDoorMt
set_option maxRecDepth 100000
set_option maxHeartbeats 0
set_option linter.unusedSimpArgs false
set_option linter.unusedVariables false
section
namespace Go.Proofs.YtfplmcpkagpaiaaGreatDoor.Fl
open Go Go.Sim Go.Sim.Cell
theorem jmpS_snoc (n : Nat) (x : Nat) : ∀ (l : List Nat) (p : Nat → Bool), jmpS n (l ++ [x]) p = addS n (jmpS n l p) x
 | [], p => rfl
 | y :: r, p => by rw [List.cons_append, jmpS, jmpS_snoc n x r, jmpS]
theorem codS_snoc (n : Nat) (x : Instr) : ∀ (l : List Instr) (i : Nat) (p : Nat → Bool), codS n (l ++ [x]) i p = insS n (i + l.length) x (codS n l i p)
 | [], i, p => rfl
 | y :: r, i, p => by rw [List.cons_append, codS, codS_snoc n x r, codS, List.length_cons, Nat.add_right_comm]; rfl
abbrev mW (x : Img) : Nat := (x.code.length + 1 + 63) / 64
abbrev imB (x : Img) : Blk := .row [lst eInstr (cF x), lst eW (jF x), bs x.data, w32 x.zero.toNat, w32 x.stack.toNat, lst eExport x.names] 0 6 true false
theorem NewSet_at (n : Nat) (hn : n ≤ 16385) (B : List Blk) (r : Heap) : callV E (om E) 59 [ii n] (B :: r) = some (.tuple [.pref 0 (B.length + 1) 0 0, ii 0], (B ++ [wR (List.replicate ((n + 63) / 64) 0), .row [ii n, .sref 0 B.length 0 ((n + 63) / 64) 0 (1, true)] 0 2 false false]) :: r) := by
 rw [call_59]
 simp (disch := omega) [if_pos, if_neg, iteK_pos, iteK_neg, NewSet_body n hn]
theorem solid_mod {PV : V} (hP : Solid PV) (nd ds : List Int) (x : Img) (b dg : Nat) : Solid (modM PV nd ds x b dg) := by
 obtain ⟨h1, h2, h3⟩ := hP
 exact ⟨by simp [h1], by simp [h2], by simp⟩
abbrev imA (x : Img) : V := .agg [lst eInstr (cF x), lst eW (jF x), bs x.data, w32 x.zero.toNat, w32 x.stack.toNat, lst eExport x.names]
theorem mod_facts {x : Img} (T : Taken x) {PV : V} (hP : Solid PV) : Solid (modX PV x) ∧ (∀ lent, pureV E (om E) 58 lent [modX PV x] = some (ii x.code.length)) ∧
  pureV E (om E) 23 false [modX PV x] = some (imA x) := by
 obtain ⟨c1, c2, c3, c4, c5, c6, c7⟩ := check_ok T.chk
 have hI := MImage hP (nF x) (dF x) x (bitsI x) (digestP x) (by omega) (by omega) (by omega) (by omega)
 simp only [imgV] at hI
 rw [lst_fl, ws_fl] at hI
 exact ⟨solid_mod hP _ _ _ _ _, fun lent => MCount hP (nF x) (dF x) x (bitsI x) (digestP x) lent, hI⟩
theorem Leaders_body {x : Img} (T : Taken x) {PV : V} (hP : Solid PV) : bodyV E (om E) 22 [modX PV x] [[]] =
  some (.tuple [.pref 0 1 0 0, ii 0], [[wR (setW (leadS (cF x) (jF x)) (mW x)), bR (x.code.length + 1) (mW x), imB x]]) := by
 have F := taken_facts T
 have hfit := fits_fl T.chk
 have hlc : x.code.length = (cF x).length := by simp [cF]
 have hlen := F.len
 have hpos := F.pos
 obtain ⟨hSo, hM, hI⟩ := mod_facts T hP
 have hN := NewSet_at (x.code.length + 1) (by omega)
 have hA := fun (p : Nat → Bool) (y : Nat) (hy : y < 4294967296) (rest : List Blk) => Add_at p (x.code.length + 1) (mW x) y (by unfold mW; omega) (by omega) hy rest
 have hD := fun (p : Nat → Bool) (rest : List Blk) => Drop_at p (x.code.length + 1) (mW x) x.code.length (by unfold mW; omega) (by omega) (by omega) rest
 have hcode : ∀ i, (h : i < (cF x).length) → (cF x)[i].arg < 4294967296 := fun i h => (hfit.ins _ (List.getElem_mem h)).2
 have hjump : ∀ i, (h : i < (jF x).length) → (jF x)[i] < 4294967296 := fun i h => hfit.words _ (List.getElem_mem h)
 have hjl : (jF x).length ≤ 16384 := by have := F.jlen; simpa [jF] using this
 have hm : mW x = (x.code.length + 1 + 63) / 64 := rfl
 unfold imB
 unfold imA at hI
 generalize mW x = m at *
 rw [← hm] at hN
 rw [show List.replicate m 0 = setW (fun _ => false) m by rw [setW_none]] at hN
 generalize modX PV x = MX at *
 have s4 := hSo.settle
 obtain ⟨s1, s2, s3⟩ := hSo
 unfold leadS
 rw [hlc] at hM hN hA hD hlen hpos ⊢
 generalize hc : cF x = c at *
 generalize hj : jF x = j at *
 clear F hfit T hm hlc hc hj
 have hne : ¬ c.length = 0 := by omega
 have hbig : c.length + 1 < 4294967296 := by omega
 obtain ⟨n1, hn1⟩ : ∃ n1, n1 = c.length + 1 := ⟨_, rfl⟩
 rw [← hn1] at hN hA hD ⊢
 have hk : (c.length : Int) + 1 = (n1 : Int) := by omega
 have hadd : ∀ p y, addS c.length p y = if y < n1 then Cell.put p y else p := fun p y => by rw [hn1]; rfl
 apply bo_22
 simp (disch := omega) [if_pos, if_neg, iteK_pos, iteK_neg, Tryz.f22, s1, s2, s3, hM, hI, hN, hne, hk]
 refine loop_chg (dyn := []) (fun n : Nat => [(31, ii n)]) (fun n => [(0, 0, wR (setW (jmpS c.length (j.take n) fun _ => false) m))]) (fun _ => []) (fun n => n ≤ j.length) (fun n => j.length - n) hint_22_0 (by kernel_rfl) ?_ 0 (by simp) (by simp [jmpS])
 intro n hn IH
 rw [lpB_eq]
 by_cases h : n < j.length
 ·have ha := hA (jmpS c.length (j.take n) fun _ => false) j[n] (hjump n h)
  simp (disch := omega) [if_pos, if_neg, iteK_pos, iteK_neg, h, ha, eW_get]
  refine IH (n + 1) _ _ (by omega) (by omega) ?_
  rw [take_snoc h, jmpS_snoc, hadd]
  simp
 ·obtain rfl : n = j.length := by omega
  clear IH
  simp (disch := omega) [if_pos, if_neg, iteK_pos, iteK_neg]
  generalize (jmpS c.length j fun _ => false) = q
  refine loop_chg (dyn := []) (fun n : Nat => [(42, ii n)]) (fun n => [(0, 0, wR (setW (codS c.length (c.take n) 0 q) m))]) (fun _ => []) (fun n => n ≤ c.length) (fun n => c.length - n) hint_22_1 (by kernel_rfl) ?_ 0 (by simp) (by simp [codS])
  intro n hn IH
  rw [lpB_eq]
  by_cases h : n < c.length
  ·have ha := hA (codS c.length (c.take n) 0 q)
   have hcs := codS_snoc c.length c[n] (c.take n) 0 q
   rw [← take_snoc h, List.length_take, Nat.min_eq_left hn, Nat.zero_add] at hcs
   have harg := hcode n h
   have hinf := fun lent => Info lent c[n].op
   have hkd := kind_eq c[n].op
   generalize (rowOf c[n].op) = R at *
   unfold insS at hcs
   rw [← hkd] at hcs
   by_cases k6 : R.kind = 6
   ·rw [if_pos k6, hadd, if_pos (by omega)] at hcs
    have ha := ha n (by omega)
    simp (disch := omega) [if_pos, if_neg, iteK_pos, iteK_neg, h, ha, hinf, k6, s4]
    refine IH (n + 1) _ _ (by omega) (by omega) ?_
    rw [hcs]
    simp
   ·rw [if_neg k6] at hcs
    by_cases k3 : R.kind = 3
    ·rw [if_pos (.inl k3), hadd] at hcs
     have ha := ha c[n].arg harg
     simp (disch := omega) [if_pos, if_neg, iteK_pos, iteK_neg, h, ha, hinf, k3, s4]
     refine IH (n + 1) _ _ (by omega) (by omega) ?_
     rw [hcs]
     simp
    ·by_cases k2 : R.kind = 2
     ·rw [if_pos (.inr k2), hadd] at hcs
      have ha := ha c[n].arg harg
      simp (disch := omega) [if_pos, if_neg, iteK_pos, iteK_neg, h, ha, hinf, k2, s4]
      refine IH (n + 1) _ _ (by omega) (by omega) ?_
      rw [hcs]
      simp
     ·rw [if_neg (by omega)] at hcs
      by_cases k5 : R.kind = 5
      ·rw [if_pos k5, hadd, if_pos (by omega)] at hcs
       have ha := ha (n + 1) (by omega)
       have e1 : ((n + 1 : Nat) : Int) = (n : Int) + 1 := by omega
       simp only [e1] at ha
       simp (disch := omega) [if_pos, if_neg, iteK_pos, iteK_neg, h, ha, hinf, k5, s4]
       refine IH (n + 1) _ _ (by omega) (by omega) ?_
       rw [hcs]
       simp
      ·rw [if_neg k5] at hcs
       have i6 : ¬ (R.kind : Int) = 6 := by omega
       have i3 : ¬ (R.kind : Int) = 3 := by omega
       have i2 : ¬ (R.kind : Int) = 2 := by omega
       have i5 : ¬ (R.kind : Int) = 5 := by omega
       simp (disch := omega) [if_pos, if_neg, iteK_pos, iteK_neg, h, hinf, i6, i3, i2, i5, s4]
       refine IH (n + 1) _ _ (by omega) (by omega) ?_
       rw [hcs]
       simp
  ·obtain rfl : n = c.length := by omega
   clear IH
   have hD := hD (codS c.length c 0 q)
   rw [if_pos (by omega)] at hD
   simp (disch := omega) [if_pos, if_neg, iteK_pos, iteK_neg, s1, s2, s3, hM, hD]
end Go.Proofs.YtfplmcpkagpaiaaGreatDoor.Fl
end
section
namespace Go.Proofs.YtfplmcpkagpaiaaGreatDoor.Fl
open Go Go.Sim Go.Sim.Cell
theorem neq_setp (x y : Operand) (d j o e : Nat) : binO E .neq 84 x y (.pref d j o e) .nilptr = some (.bool true) := by
 have hu := Tryz.underlying84
 rw [← E_P] at hu
 simp [binO, binV, eqV, hu]
theorem All_at (q : Nat → Bool) (n m : Nat) (hm : 0 < m) (hm2 : m ≤ 16384) (b b2 : Blk) : callV E (om E) 33 [.pref 0 1 0 0] [[wR (setW q m), bR n m, b, b2]] =
  some (.func (.func 70) [] [.pref 0 4 0 0], [[wR (setW q m), bR n m, b, b2, .row [.sref 0 6 0 m 0 (1, false)] 0 1 false false, .row [] 0 1 true true, wR (setW q m)]]) := by
 rw [call_33]
 have hb : bodyV E (om E) 33 (V.upL 1 [.pref 0 1 0 0]) [[], [wR (setW q m), bR n m, b, b2]] = some (.func (.func 70) [] [.pref 0 0 0 0], [[.row [.sref 0 2 0 m 0 (1, false)] 0 1 false false, .row [] 0 1 true true, wR (setW q m)], [wR (setW q m), bR n m, b, b2]]) := by
  apply bo_33
  have ht : (cat eW64 (setW q m)).take m = cat eW64 (setW q m) := List.take_of_length_le (by rw [eW64_len]; simp)
  simp (disch := omega) [if_pos, if_neg, iteK_pos, iteK_neg, Tryz.f33, V.upIf, neq_setp, ht]
 rw [hb]
 simp
theorem AllN (q : Nat → Bool) (m : Nat) (hm2 : m ≤ 16384) (H : Nat → List Blk) (jy : Nat) (h3 : ∀ k, (H k)[4]? = some (.row [.sref 0 6 0 m 0 (1, false)] 0 1 false false)) (h5 : ∀ k, (H k)[6]? = some (wR (setW q m)))
  (step : ∀ x k, (hk : k < (numsF q m).length) → roundV (om E) 1 jy [.int .u32 ((numsF q m)[k] : Nat)] [x, H k] = some (bb true, [x, H (k + 1)])) :
  callV E (om E) 70 [.yield 0 jy, .pref 0 4 0 0] [H 0] = some (.tuple [], [H (numsF q m).length]) := by
 apply he_70
 simp (disch := omega) [if_pos, if_neg, iteK_pos, iteK_neg, Tryz.f70, V.upIf, h3]
 have hw64 := fun w (h : w < m) => setW_cell q m w h
 have hlen : (setW q m).length = m := by simp
 have hsm := setW_small q m
 have hgw : ∀ w, (h : w < m) → (setW q m)[w]'(by simp; exact h) = word q w := fun w h => setW_get q m w h
 generalize hNL : numsF q m = NL at *
 refine loop_use (dyn := []) (fun s : Nat × List Nat => [.yield 1 jy, .pref 1 4 0 0, xx, xx, xx, .sref 1 6 0 m 0 (1, false), ii m, ii s.1] ++ pois 20) (fun s => [[], H s.2.length]) (fun s => s.1 ≤ m ∧ NL = s.2 ++ listW s.1 ((setW q m).drop s.1)) (fun s => m - s.1) hint_70_0 (by kernel_rfl) ?_ (0, []) ⟨by simp, by rw [← hNL]; simp [numsF]⟩ (by simp)
 rintro ⟨n, pre⟩ ⟨h1, h2⟩ IH
 dsimp only at h1 h2 ⊢
 rw [lpB_eq]
 by_cases h : n < m
 ·have hw := hw64 n h
  rw [List.drop_eq_getElem_cons (by omega), listW, hgw n h] at h2
  simp (disch := omega) [if_pos, if_neg, iteK_pos, iteK_neg, V.upIf, h, h5, hw]
  refine loop_use (dyn := []) (fun s : Nat × List Nat => [.yield 1 jy, .pref 1 4 0 0, xx, ii n, .int .u64 s.1, .sref 1 6 0 m 0 (1, false), ii m, ii n, bb true, ii n, .pref 1 6 n 0, .int .u64 (word q n : Nat)] ++ pois 16) (fun s => [[], H s.2.length])
   (fun s => s.1 < 2 ^ 64 ∧ NL = s.2 ++ ((bitsL s.1).map (fun b => 64 * n + b) ++ listW (n + 1) ((setW q m).drop (n + 1)))) (fun s => s.1) hint_70_1 (by kernel_rfl) ?_ (word q n, pre) ⟨word_lt q n, h2⟩ (by simp)
  clear h2
  rintro ⟨w, pre⟩ ⟨g1, g2⟩ IH2
  dsimp only at g1 g2 ⊢
  rw [lpB_eq]
  by_cases h0 : w = 0
  ·subst h0
   clear IH2
   rw [bitsL_zero, List.map_nil, List.nil_append] at g2
   simp (disch := omega) [if_pos, if_neg, iteK_pos, iteK_neg]
   exact IH (n + 1, pre) _ _ ⟨by dsimp only; omega, g2⟩ (by dsimp only; omega) (by simp)
  ·clear IH
   rw [bitsL_pos h0, List.map_cons] at g2
   have ht := (Tz.tz_spec h0 g1).1
   have hk : pre.length < NL.length := by rw [g2]; simp
   have hg : NL[pre.length] = 64 * n + Tz.tz w := by simp only [g2]; rw [List.getElem_append_right (Nat.le_refl _)]; simp
   have hst := fun x => step x pre.length hk
   rw [hg] at hst
   have e1 : ((64 * n + Tz.tz w : Nat) : Int) = 64 * (n : Int) + (Tz.tz w : Int) := by omega
   simp only [e1] at hst
   have hand : IntKind.u64.wrap (Go.Sim.andI 64 (w : Int) ((w : Int) - 1)) = ((w &&& (w - 1) : Nat) : Int) := by
    have hl := and_pred_lt h0
    rw [show (w : Int) - 1 = ((w - 1 : Nat) : Int) by omega, andI_nat (by omega) (by omega), IntKind.wrap_u64]
    omega
   simp (disch := omega) [if_pos, if_neg, iteK_pos, iteK_neg, h0, hst, hand]
   refine IH2 (w &&& (w - 1), pre ++ [64 * n + Tz.tz w]) _ _ ⟨Nat.lt_trans (and_pred_lt h0) g1, ?_⟩ (and_pred_lt h0) (by simp)
   dsimp only
   rw [g2]
   simp
 ·obtain rfl : n = m := by omega
  rw [List.drop_eq_nil_of_le (by omega), listW, List.append_nil] at h2
  subst h2
  clear IH
  simp (disch := omega) [if_pos, if_neg, iteK_pos, iteK_neg]
abbrev leadH (q : Nat → Bool) (n m : Nat) (b LB : Blk) (l : List Nat) : List Blk :=
 [wR (setW q m), bR n m, b, .row [.sref 0 7 0 l.length l.length (1, false)] 0 1 false false, .row [.sref 0 6 0 m 0 (1, false)] 0 1 false false, .row [] 0 1 true true, wR (setW q m), .row (cat eW l) l.length 1 true true, LB]
theorem AllLead (q : Nat → Bool) (n m : Nat) (hm2 : m ≤ 16384) (b LB : Blk)
  (step : ∀ x k, (hk : k < (numsF q m).length) → roundV (om E) 1 8 [.int .u32 ((numsF q m)[k] : Nat)] [x, leadH q n m b LB ((numsF q m).take k)] = some (bb true, [x, leadH q n m b LB ((numsF q m).take (k + 1))])) :
  callV E (om E) 70 [.yield 0 8, .pref 0 4 0 0] [[wR (setW q m), bR n m, b, .row [.sref 0 7 0 0 0 (1, false)] 0 1 false false, .row [.sref 0 6 0 m 0 (1, false)] 0 1 false false, .row [] 0 1 true true, wR (setW q m), .row [] 0 1 true true, LB]] = some (.tuple [], [leadH q n m b LB (numsF q m)]) := by
 have := AllN q m hm2 (fun k => leadH q n m b LB ((numsF q m).take k)) 8 (fun k => rfl) (fun k => rfl) step
 rw [List.take_length] at this
 exact this
noncomputable abbrev leadF (x : Img) : Nat → Bool := leadS (cF x) (jF x)
noncomputable abbrev leadL (x : Img) : List Nat := numsF (leadF x) (mW x)
theorem Leaders_at {x : Img} (T : Taken x) {PV : V} (hP : Solid PV) : callV E (om E) 22 [modX PV x] [[]] =
  some (.tuple [.pref 0 1 0 0, ii 0], [[wR (setW (leadF x) (mW x)), bR (x.code.length + 1) (mW x), imB x]]) := by
 have hb := Leaders_body T hP
 obtain ⟨⟨s1, s2, s3⟩, hM, hI⟩ := mod_facts T hP
 unfold imB at hb ⊢
 generalize modX PV x = MX at *
 rw [call_22]
 simp (disch := omega) [if_pos, if_neg, iteK_pos, iteK_neg, s1, s2, s3, hb]
theorem Leaders_ok {x : Img} (T : Taken x) {PV : V} (hP : Solid PV) : pureV E (om E) 12 false [modX PV x] = some (.tuple [lst eW (numsF (leadF x) (mW x)), ii 0]) := by
 have F := taken_facts T
 have hlen := F.len
 have hL := Leaders_at T hP
 have hmm : mW x ≤ 16384 := by unfold mW; omega
 have hA := All_at (leadF x) (x.code.length + 1) (mW x) (by unfold mW; omega) (by unfold mW; omega) (imB x) (.row [.nilslice] 0 1 true true)
 obtain ⟨hSo, hM, hI⟩ := mod_facts T hP
 have s4 := hSo.settle
 obtain ⟨s1, s2, s3⟩ := hSo
 generalize modX PV x = MX at *
 generalize leadF x = q at *
 generalize hm : mW x = m at *
 unfold imB at hL hA
 apply pu_12
 simp (disch := omega) [if_pos, if_neg, iteK_pos, iteK_neg, Tryz.f12, s1, s2, s3, hL, hA]
 refine range_of hint_12_0 ?_
 simp (disch := omega) [if_pos, if_neg, iteK_pos, iteK_neg]
 rw [AllLead q _ m (by omega) _ _ ?step]
 case step =>
  intro L k hk
  have hnl := numsF_len q m
  rw [take_snoc hk]
  have hkl : ((numsF q m).take k).length = k := by simp; omega
  generalize (numsF q m)[k] = y at *
  generalize (numsF q m).take k = l at *
  subst hkl
  refine round_eq (dyn := []) rfl rfl (by simp; rfl) (by kernel_rfl) (by kernel_rfl) ?_
  have hll : l.length < 1048576 := by omega
  clear hk
  simp (disch := omega) [if_pos, if_neg, iteK_pos, iteK_neg, s4, cat_append, cat_cons]
 simp (disch := omega) [if_pos, if_neg, iteK_pos, iteK_neg]
end Go.Proofs.YtfplmcpkagpaiaaGreatDoor.Fl
end
section
namespace Go.Proofs.YtfplmcpkagpaiaaGreatDoor.Fl
open Go Go.Sim Go.Sim.Cell
@[simp] theorem cut_eCl (l : List Cl) : cutCells (cat eCl l) 0 l.length 7 = cat eCl l := cut_all eCl rfl rfl
@[simp] theorem fold_eCl (l : List Cl) : V.scon (cat eCl l) 0 l.length false = lst eCl l := rfl
def tgV (x : Cl) : Nat := if x.kind = 3 then x.a else if x.kind = 6 ∨ x.kind = 14 then x.b else if x.kind = 1 then x.a else 0
theorem tgV_some {x : Cl} {t : Nat} (h : tgtF x = some t) : tgV x = t := by
 unfold tgtF at h; unfold tgV
 by_cases h1 : x.kind = 3
 ·rw [if_pos h1] at h ⊢; simpa using h
 ·rw [if_neg h1] at h ⊢
  by_cases h2 : x.kind = 6 ∨ x.kind = 14
  ·rw [if_pos h2] at h ⊢; simpa using h
  ·rw [if_neg h2] at h ⊢
   by_cases h3 : x.kind = 1 ∧ (kindF x.op = 3 ∨ kindF x.op = 2)
   ·rw [if_pos h3] at h
    rw [if_pos h3.1]; simpa using h
   ·rw [if_neg h3] at h; cases h
abbrev fuV (x : Cl) : V := .agg [.int .u32 x.at_, .int .u32 x.len, .int .u8 x.kind, .int .u8 x.op, .int .u32 x.a, .int .u32 x.b]
abbrev clV (x : Cl) : V := .agg [.int .u32 x.at_, .int .u32 x.len, .int .u8 x.kind, .int .u8 x.op, .int .u32 x.a, .int .u32 x.b, .int .u32 x.to]
theorem CTarget (lent) (x : Cl) : pureV E (om E) 68 lent [fuV x] = some (.tuple [.int .u32 (tgV x), bb (tgtF x).isSome]) := by
 have hinf := fun lent => Info lent x.op
 have hkd := kind_eq x.op
 unfold tgV tgtF
 rw [← hkd]
 generalize (rowOf x.op) = R at *
 apply pu_68
 by_cases h3 : x.kind = 3
 ·simp (disch := omega) [if_pos, if_neg, iteK_pos, iteK_neg, Tryz.f68, h3]
 ·have i3 : ¬ (x.kind : Int) = 3 := by omega
  by_cases h6 : x.kind = 6
  ·simp (disch := omega) [if_pos, if_neg, iteK_pos, iteK_neg, Tryz.f68, h6]
  ·have i6 : ¬ (x.kind : Int) = 6 := by omega
   by_cases h14 : x.kind = 14
   ·simp (disch := omega) [if_pos, if_neg, iteK_pos, iteK_neg, Tryz.f68, h14]
   ·have i14 : ¬ (x.kind : Int) = 14 := by omega
    by_cases h1 : x.kind = 1
    ·by_cases k3 : R.kind = 3
     ·simp (disch := omega) [if_pos, if_neg, iteK_pos, iteK_neg, Tryz.f68, h1, hinf, k3]
     ·have j3 : ¬ (R.kind : Int) = 3 := by omega
      by_cases k2 : R.kind = 2
      ·simp (disch := omega) [if_pos, if_neg, iteK_pos, iteK_neg, Tryz.f68, h1, hinf, k2]
      ·have j2 : ¬ (R.kind : Int) = 2 := by omega
       simp (disch := omega) [if_pos, if_neg, iteK_pos, iteK_neg, Tryz.f68, h1, hinf, j3, j2, k3, k2]
    ·have i1 : ¬ (x.kind : Int) = 1 := by omega
     simp (disch := omega) [if_pos, if_neg, iteK_pos, iteK_neg, Tryz.f68, i3, i6, i14, i1, h3, h6, h14, h1]
theorem CTo (lent) (x : Cl) (o : List Nat) (ho : o.length ≤ 16384) (hf : ∀ t, tgtF x = some t → t < 4294967296) : pureV E (om E) 32 lent [clV x, lst eW o] = some (.int .u32 (toF o x)) := by
 have hT := fun lent => CTarget lent x
 unfold toF
 apply pu_32
 cases ht : tgtF x with
 | none =>
  rw [ht] at hT
  simp (disch := omega) [if_pos, if_neg, iteK_pos, iteK_neg, Tryz.f32, hT]
 | some t =>
  rw [ht, tgV_some ht] at hT
  have h32 := hf t ht
  by_cases hl : t < o.length
  ·simp (disch := omega) [if_pos, if_neg, iteK_pos, iteK_neg, Tryz.f32, hT, hl, eW_get, getD_lt hl]
  ·simp (disch := omega) [if_pos, if_neg, iteK_pos, iteK_neg, Tryz.f32, hT, hl, getD_ge (show o.length ≤ t by omega)]
theorem make_u32s (B : List Blk) (r : Heap) (n : Nat) (hn : n ≤ 16384) : makeSliceV Tryz.prog (B :: r) 23 (ii n) (ii n) = some (.sref 0 B.length 0 n 0 (1, true), (B ++ [.row (cat eW (List.replicate n 0)) 0 1 true true]) :: r) := by
 unfold makeSliceV
 rw [show Tryz.prog.underlying 23 = some (.slice 25) by kernel_rfl]
 dsimp only
 rw [show zeroV Tryz.prog 25 = some (.int .u32 0) by kernel_rfl, show bytesV Tryz.prog 25 = some 4 by kernel_rfl, show sizeV Tryz.prog 25 = some 1 by kernel_rfl]
 have hc : V.cells (.int .u32 0) = eW.enc 0 := by simp
 have hr : rep (eW.enc 0) n = cat eW (List.replicate n 0) := rep_cat eW 0 n
 simp only [Option.bind_some, hc, newRow, Int.toNat_natCast, hr]
 rw [if_pos (by simp; omega)]
 simp [Heap.push, Heap.top, Heap.setTop]
theorem cat_setW32 : ∀ (l : List Nat) (i y : Nat), (cat eW l).set i (.int .u32 (y : Int)) = cat eW (l.set i y)
 | [], i, y => by simp
 | x :: r, 0, y => by simp [cat_cons]
 | x :: r, i + 1, y => by simp [cat_cons, cat_setW32 r i y]
theorem begGo_snoc (x : Cl) : ∀ (l : List Cl) (i : Nat) (o : List Nat), begGo (l ++ [x]) i o = (begGo l i o).set x.at_ (i + l.length)
 | [], i, o => rfl
 | y :: r, i, o => by rw [List.cons_append, begGo, begGo_snoc x r, begGo, List.length_cons, Nat.add_right_comm]; rfl
theorem rep_set (n k a b : Nat) (h : k < n) : (List.replicate k b ++ List.replicate (n - k) a).set k b = List.replicate (k + 1) b ++ List.replicate (n - (k + 1)) a := by
 rw [List.set_append_right _ _ (by simp)]
 simp only [List.length_replicate, Nat.sub_self]
 rw [show n - k = (n - (k + 1)) + 1 by omega, List.replicate_succ, List.set_cons_zero, List.replicate_succ' (n := k)]
 simp
theorem CBegins (lent) (n : Nat) (hn : n ≤ 16384) (l : List Cl) (hl : l.length < 4294967296) (ha : ∀ x ∈ l, x.at_ < n) : pureV E (om E) 31 lent [ii n, lst eCl l] = some (lst eW (begF n l)) := by
 have hm := fun B r => make_u32s B r n hn
 apply pu_31
 simp (disch := omega) [if_pos, if_neg, iteK_pos, iteK_neg, Tryz.f31, hm]
 refine loop_chg (dyn := []) (fun k : Nat => [(13, ii k)]) (fun k => [(0, 0, .row (cat eW (List.replicate k 4294967295 ++ List.replicate (n - k) 0)) 0 1 true true)]) (fun _ => []) (fun k => k ≤ n) (fun k => n - k) hint_31_0 (by kernel_rfl) ?_ 0 (by simp) (by simp)
 intro k hk IH
 rw [lpB_eq]
 by_cases h : k < n
 ·have hs := cat_setW32 (List.replicate k 4294967295 ++ List.replicate (n - k) 0) k 4294967295
  rw [rep_set n k 0 4294967295 h] at hs
  simp (disch := omega) [if_pos, if_neg, iteK_pos, iteK_neg, h]
  refine IH (k + 1) _ _ (by omega) (by omega) ?_
  simp [← hs]
 ·obtain rfl : k = n := by omega
  clear IH
  simp (disch := omega) [if_pos, if_neg, iteK_pos, iteK_neg]
  refine loop_chg (dyn := []) (fun i : Nat => [(22, ii i)]) (fun i => [(0, 0, .row (cat eW (begGo (l.take i) 0 (List.replicate k 4294967295))) 0 1 true true)]) (fun _ => []) (fun i => i ≤ l.length) (fun i => l.length - i) hint_31_1 (by kernel_rfl) ?_ 0 (by simp) (by simp [begGo])
  intro i hi IH
  rw [lpB_eq]
  by_cases h : i < l.length
  ·have hat := ha l[i] (List.getElem_mem h)
   have hs := cat_setW32 (begGo (l.take i) 0 (List.replicate k 4294967295)) l[i].at_ i
   have hb := begGo_snoc l[i] (l.take i) 0 (List.replicate k 4294967295)
   rw [← take_snoc h, List.length_take, Nat.min_eq_left hi, Nat.zero_add] at hb
   have hln := begGo_len (l.take i) 0 (List.replicate k 4294967295)
   rw [List.length_replicate] at hln
   simp (disch := omega) [if_pos, if_neg, iteK_pos, iteK_neg, h, hat, hln]
   refine IH (i + 1) _ _ (by omega) (by omega) ?_
   rw [hb, ← hs]
   simp
  ·obtain rfl : i = l.length := by omega
   clear IH
   simp (disch := omega) [if_pos, if_neg, iteK_pos, iteK_neg]
   exact res_lst eW (by simp [begGo_len]) rfl
end Go.Proofs.YtfplmcpkagpaiaaGreatDoor.Fl
end
