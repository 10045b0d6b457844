/-
 flow's walk through a procedure.
 procs' All, gone through.
 Plain facts of procedures, of what may come behind an instruction, of walks.
 Plain facts: where one may come from an instruction; what a walk that ends well leaves.
 Plain facts: the depths, procedure by procedure.
 flow.Depths.
 procs.Find with names.
 Plain: procedures lie one behind the other; the targets rise and are all the jumps.
-/
import Derived.Test.YtfplmcpkagpaiaaGreatDoorGd
import Derived.Test.YtfplmcpkagpaiaaGreatDoorMe
import Derived.Test.YtfplmcpkagpaiaaGreatDoorIa
set_option maxRecDepth 100000
set_option maxHeartbeats 0
set_option linter.unusedSimpArgs false
set_option linter.unusedVariables false
section
namespace Go.Proofs.YtfplmcpkagpaiaaGreatDoor.Fl
open Go Go.Sim
abbrev dpB (b0 b1 b2 b3 b4 b5 : Blk) (ds : List Int) (T : List Blk) : List Blk := b0 :: b1 :: b2 :: b3 :: b4 :: b5 :: .row (cat eI ds) 0 1 true true :: T
abbrev walkSlots (G : V) (begin n : Nat) (need at_ : Int) : List V := [G, ii begin, V.sref 1 6 0 n 0 (1, true), xx, xx, xx, ii 0,
    ii 0, ii 0, V.pref 0 1 0 0, ii need, ii at_, ii 0, xx, xx, xx, xx, xx, ii begin, V.sref 0 0 0 1 0 (1, true), V.pref 0 1 0 0,
    V.sref 1 6 0 n 0 (1, true), ii begin, V.pref 1 6 begin 0] ++ pois 85
structure WS where
 m : HM
 ds : List Int
 need : Int
 at_ : Int
 f : Nat
theorem Walk_body (code jumps s ts) (hl : code.length ≤ 16384) (h2 : s.2.length = code.length) (ho : ∀ p ∈ s.2, p < s.1.length) (ht : ts.length = s.1.length) (hj : ∀ l ∈ ts, l.length ≤ 35184372087808)
  (hnx : ∀ i, i < code.length → ∀ x ∈ nextF code s ts i, x < code.length) (begin : Nat) (hb : begin < code.length) (ds : List Int) (hds : ds.length = code.length) (hlow : ∀ v ∈ ds, -1 ≤ v ∧ v ≤ 64) (b0 b1 b2 b3 b4 b5 T r) (W : WR)
  (hW : walkF code s ts code.length ⟨[(begin : Int)], [], 0, true⟩ (ds.set begin 0) 0 = W) :
  bodyV E (om E) 81 [graphV code jumps s ts, ii begin, .sref 1 6 0 code.length 0 (1, true)] ([] :: dpB b0 b1 b2 b3 b4 b5 ds T :: r) = some (.tuple [ii W.need, ii W.at_, ii W.e], W.m.blk W.x :: dpB b0 b1 b2 b3 b4 b5 W.ds T :: r) := by
 have hN := fun i hi => GNext code jumps s ts i hi hl h2 ho ht hj
 have hI := GInfo code jumps s ts
 generalize hG : graphV code jumps s ts = G at *
 have hGf : V.flat G = true := by rw [← hG]; simp
 have hGc : V.canon G = G := by rw [← hG]; simp [canon_lsts]
 have hGs : ∀ n H, V.settle n H G = G := fun n H => settle_flat n H G hGf
 have hGu : ∀ n, V.up n G = G := fun n => up_flat n G hGf
 apply bo_81
 have e0 : ((cat eI ds).set begin (ii 0)) = cat eI (ds.set begin 0) := cat_eI_set ds begin 0
 simp (disch := omega) [if_pos, if_neg, iteK_pos, iteK_neg, Tryz.f81, hb, hds]
 refine loop_use (dyn := [6]) (fun (a : WS) => walkSlots G begin code.length a.need a.at_) (fun a => a.m.blk [] :: dpB b0 b1 b2 b3 b4 b5 a.ds T :: r)
  (fun a => WOk code.length a.m.w a.ds ∧ 0 ≤ a.need ∧ a.need ≤ 64 ∧ a.m.w.length + neg a.ds ≤ a.f ∧ walkF code s ts a.f a.m a.ds a.need = W) (fun a => a.f) hint_81_0 (by kernel_rfl) ?_ ⟨⟨[(begin : Int)], [], 0, true⟩, ds.set begin 0, 0, 0, code.length⟩ ?_ ?_
 rotate_left
 ·have hbl : begin < (ds.set begin 0).length := by rw [List.length_set, hds]; exact hb
  have hng := neg_lt hbl (by simp)
  rw [List.length_set, hds] at hng
  refine ⟨⟨by rw [List.length_set, hds], fun v hv => ?_, fun x hx => ?_, ?_⟩, by simp, by simp, ?_, hW⟩
  ·rcases mem_set_or hv with h | h
   ·exact hlow v h
   ·subst h; simp
  ·simp at hx; subst hx; omega
  ·show 1 + neg (ds.set begin 0) ≤ code.length; omega
  ·show 1 + neg (ds.set begin 0) ≤ code.length; omega
 ·simp [walkSlots, HM.blk, hpB, dpB, e0, cat_cons]
 rintro ⟨m, ds, need, at_, f⟩ ⟨hok, hn0, hn64, hf, hR⟩ IH
 rw [lpB_eq]
 dsimp only at hok hn0 hn64 hf hR ⊢
 have hwl : m.w.length ≤ code.length := by have := hok.few; omega
 by_cases c0 : m.w.length = 0
 ·have hR' : W = ⟨need, 0, 0, ds, m, []⟩ := by
   rw [← hR]; cases f with
   | zero => rfl
   | succ f => rw [walkF, if_pos c0]
  subst hR'
  have hw : m.w = [] := List.length_eq_zero_iff.mp c0
  have hL0 : ∀ lent, pureV E (om E) 105 lent [.scon [] 0 0 false] = some (ii 0) := fun lent => HLen lent []
  have hc0 : cutCells (cat eI m.junk) 0 0 1 = [] := by simp [cutCells]
  simp (disch := omega) [if_pos, if_neg, iteK_pos, iteK_neg, hw, hL0, hc0, upIf_f1, hGs]
 ·obtain ⟨p0, p1, hok'⟩ := popOk hok (by omega)
  have hP := fun rr => HPop m.w m.junk m.ep m.q [] rr (by omega) (by omega)
  obtain ⟨f, rfl⟩ : ∃ f', f = f' + 1 := Nat.exists_eq_succ_of_ne_zero (by omega)
  have hpl := popF_len (l := m.w) (by omega)
  rw [walkF, if_neg c0] at hR
  obtain ⟨i, hi⟩ := Int.eq_ofNat_of_zero_le p0
  rw [hi] at p1 hP hR
  have hin : i < code.length := by omega
  have hid : i < ds.length := by rw [hok.len]; exact hin
  rw [Int.toNat_natCast, getD_lt hin, getD_lt hid] at hR
  have hlo := hok.low _ (List.getElem_mem hid)
  obtain ⟨k1, k2⟩ := takes_le code[i].op
  have hIi := hI i hin
  have hNi := hN i hin
  have hxi := hnx i hin
  have hnl := nextF_len code s ts hj i
  have hm' : hpB (popF m.w).2 ((i : Int) :: m.junk) m.ep false [] = m.pop.blk [] := by simp only [HM.blk, HM.pop, hi]
  have hib : ∀ tk gv kd : Nat, takesF code[i].op = tk → givesF code[i].op = gv → kindF code[i].op = kd → infoBlk code[i].op = .row [.str (rowOf code[i].op).word, ii (rowOf code[i].op).width, .int .u32 (rowOf code[i].op).most, ii tk, ii gv, .int .u8 kd] 0 6 true true := by
   rintro _ _ _ rfl rfl rfl; rfl
  generalize htk : takesF code[i].op = tk at *
  generalize hgv : givesF code[i].op = gv at *
  generalize hkd : kindF code[i].op = kd at *
  generalize hdi : ds[i] = d at *
  have hib := hib tk gv kd rfl rfl rfl
  have hd2 : (0 : Int) ≤ d - tk + gv ∨ d < tk := by omega
  simp (disch := omega) [if_pos, if_neg, iteK_pos, iteK_neg, c0, HLen, cut_pre, upIf_f1, hGs, hGf, hGu, hGc, hP, hIi, takes_eq, gives_eq, kind_eq, htk, hgv, hkd, eI_get, hid, hdi]
  rw [iteK_pos (by kernel_rfl)]
  by_cases c1 : d < tk
  ·rw [if_pos c1] at hR
   subst hR
   simp (disch := omega) [if_pos, if_neg, iteK_pos, iteK_neg, takes_eq, gives_eq, kind_eq, htk, hgv, hkd, c1, hGs, HM.blk, HM.pop, hi, hib]
  ·rw [if_neg c1] at hR
   by_cases c2 : 64 < d - tk + gv
   ·rw [if_pos c2] at hR
    subst hR
    simp (disch := omega) [if_pos, if_neg, iteK_pos, iteK_neg, takes_eq, gives_eq, kind_eq, htk, hgv, hkd, c1, c2, hGs, HM.blk, HM.pop, hi, hib]
   ·rw [if_neg c2] at hR
    have hd0 : 0 ≤ d - tk + gv := by omega
    by_cases c3 : kd = 7 ∧ d ≠ 1
    ·rw [if_pos c3] at hR
     obtain ⟨rfl, c4⟩ := c3
     subst hR
     simp (disch := omega) [if_pos, if_neg, iteK_pos, iteK_neg, takes_eq, gives_eq, kind_eq, htk, hgv, hkd, c1, c2, c4, hGs, HM.blk, HM.pop, hi, hib]
    ·rw [if_neg c3] at hR
     have hmx : (if (if need < d then d else need) < d - tk + gv then d - tk + gv else if need < d then d else need) = max (max need d) (d - tk + gv) := by
      simp only [Int.max_def]
      split <;> split <;> split <;> omega
     by_cases c5 : kd = 7
     ·subst c5
      have c4 : d = 1 := Classical.byContradiction fun h => c3 ⟨rfl, h⟩
      have hx0 : nextF code s ts i = [] := by unfold nextF; rw [getD_lt hin]; simp [hkd]
      rw [hx0] at hR hNi
      rw [nextL, if_pos rfl] at hR
      dsimp only at hR
      rw [lst_nil] at hNi
      subst c4
      simp (disch := omega) [if_pos, if_neg, iteK_pos, iteK_neg, takes_eq, gives_eq, kind_eq, htk, hgv, hkd, c1, c2, hGs, hGf, hGu, hGc, hNi, hmx]
      apply loop_next (dyn := []) hint_81_1 (by kernel_rfl)
      simp (disch := omega) [if_pos, if_neg, iteK_pos, iteK_neg]
      rw [lpB_eq]
      simp (disch := omega) [if_pos, if_neg, iteK_pos, iteK_neg, hGs]
      refine IH ⟨m.pop, ds, max (max need 1) (1 - tk + gv), i, f⟩ _ _ ⟨hok', by dsimp only; omega, by dsimp only; omega, ?_, hR⟩ (by dsimp only; omega) ?_
      ·show (popF m.w).2.length + neg ds ≤ f; omega
      ·simp [walkSlots, HM.blk, HM.pop, hi]
     ·simp (disch := omega) [if_pos, if_neg, iteK_pos, iteK_neg, takes_eq, gives_eq, kind_eq, htk, hgv, hkd, c1, c2, c5, hGs, hGf, hGu, hGc, hNi, hmx]
      refine loop_chg (dyn := []) (fun a : Nat × HM × List Int => [(71, ii a.1)]) (fun a => [(0, 0, .row (cat eI (a.2.1.w ++ a.2.1.junk)) a.2.1.ep 1 true true), (0, 1, .row [.sref 0 0 0 a.2.1.w.length a.2.1.ep (1, a.2.1.q)] 0 1 false false), (1, 6, .row (cat eI a.2.2) 0 1 true true)]) (fun _ => [])
       (fun a => a.1 ≤ (nextF code s ts i).length ∧ WOk code.length a.2.1.w a.2.2 ∧ a.2.1.q = false ∧ nextL (d - tk + gv) ((nextF code s ts i).drop a.1) a.2.1 a.2.2 = nextL (d - tk + gv) (nextF code s ts i) m.pop ds)
       (fun a => (nextF code s ts i).length - a.1) hint_81_1 (by kernel_rfl) ?_ (0, m.pop, ds) ⟨by simp, hok', rfl, rfl⟩ (by simp [HM.pop, hi])
      rintro ⟨k, mk, dk⟩ ⟨q1, q2, q3, q4⟩ IH2
      rw [lpB_eq]
      dsimp only at q1 q2 q3 q4 ⊢
      by_cases g1 : k < (nextF code s ts i).length
      ·have hxk := hxi _ (List.getElem_mem g1)
       rw [List.drop_eq_getElem_cons g1, nextL] at q4
       generalize hx : (nextF code s ts i)[k] = x at *
       have hxd : x < dk.length := by rw [q2.len]; exact hxk
       have hdl := q2.len
       rw [getD_lt hxd] at q4
       by_cases g2 : dk[x] < 0
       ·rw [if_pos g2] at q4
        have hwk : mk.w.length < 1099511627776 := by have := q2.few; omega
        have P2 := fun T rr => HPush mk.w mk.junk x mk.ep T rr hwk
        have hnew := nextOk_push q2 hxk hd0 (show d - tk + gv ≤ 64 by omega) (show dk.getD x 0 < 0 by rw [getD_lt hxd]; exact g2)
        simp (disch := omega) [if_pos, if_neg, iteK_pos, iteK_neg, g1, g2, hx, eI_get, hxd, hGs, hGf, hGu, hGc, q3, P2]
        refine IH2 (k + 1, mk.push x, dk.set x (d - tk + gv)) _ _ ⟨by dsimp only; omega, hnew, rfl, q4⟩ (by dsimp only; omega) ?_
        simp [HM.push, cat_eI_set, hpB]
       ·rw [if_neg g2] at q4
        by_cases g3 : dk[x] = d - tk + gv
        ·rw [if_pos g3] at q4
         simp (disch := omega) [if_pos, if_neg, iteK_pos, iteK_neg, g1, g2, g3, hx, eI_get, hxd, hGs, hGf, hGu, hGc]
         refine IH2 (k + 1, mk, dk) _ _ ⟨by dsimp only; omega, q2, q3, q4⟩ (by dsimp only; omega) ?_
         simp
        ·rw [if_neg g3] at q4
         rw [← q4] at hR
         dsimp only at hR
         rw [if_neg (by simp)] at hR
         subst hR
         simp (disch := omega) [if_pos, if_neg, iteK_pos, iteK_neg, g1, g2, g3, hx, eI_get, hxd, hGs, hGf, hGu, hGc, hib, HM.blk]
      ·rw [List.drop_of_length_le (by omega), nextL] at q4
       rw [← q4, if_pos rfl] at hR
       dsimp only at hR
       have hms := nextL_meas (m := m.pop) hd0 (show d - tk + gv ≤ 64 by omega) hxi hok'
       rw [← q4] at hms
       dsimp only at hms
       simp (disch := omega) [if_pos, if_neg, iteK_pos, iteK_neg, g1, hGs, hGf, hGu, hGc]
       refine IH ⟨mk, dk, max (max need d) (d - tk + gv), i, f⟩ _ _ ⟨q2, by dsimp only; omega, by dsimp only; omega, ?_, hR⟩ (by dsimp only; omega) ?_
       ·show mk.w.length + neg dk ≤ f
        rw [hms.2]
        show (popF m.w).2.length + neg ds ≤ f; omega
       ·simp [walkSlots, HM.blk]
end Go.Proofs.YtfplmcpkagpaiaaGreatDoor.Fl
end
section
namespace Go.Proofs.YtfplmcpkagpaiaaGreatDoor.Fl
open Go Go.Sim
abbrev allV (s : List PR × List Nat) (ts : List (List Nat)) : V := .func (.func 104) [] [.pcon [procsV s ts] 0]
theorem ProcsAll (s ts) : pureV E (om E) 80 false [procsV s ts] = some (allV s ts) := by
 apply pu_80
 simp (disch := omega) [if_pos, if_neg, iteK_pos, iteK_neg, Tryz.f80, procsV, canon_lsts]
theorem All1 (s ts) (j : Nat) (H : Nat → Heap) (m : Nat) (hm : m ≤ s.1.length) (hl : s.1.length ≤ 16384)
  (step : ∀ L k, (hk : k < m) → roundV (om E) 1 j [ii k, prV (s.1[k]'(by omega))] (L :: H k) = some (.bool true, L :: H (k + 1)))
  (stop : ∀ L, (hk : m < s.1.length) → roundV (om E) 1 j [ii m, prV s.1[m]] (L :: H m) = some (.bool false, L :: H (m + 1))) :
  callV E (om E) 104 [.yield 0 j, .pcon [procsV s ts] 0] (H 0) = some (.tuple [], H (if m < s.1.length then m + 1 else m)) := by
 apply he_104
 simp (disch := omega) [if_pos, if_neg, iteK_pos, iteK_neg, Tryz.f104, procsV, eq_pcon]
 refine loop_use (dyn := []) (fun (k : Nat) => [V.yield 1 j, V.pcon [V.pcon [lst ePR s.fst, lst eN s.snd, V.scon (List.map (lst eW) ts) 0 ts.length false] 0] 0,
    xx, xx, xx, V.pcon [lst ePR s.fst, lst eN s.snd, V.scon (List.map (lst eW) ts) 0 ts.length false] 0,
    V.bool false, V.pcon [lst ePR s.fst, lst eN s.snd, V.scon (List.map (lst eW) ts) 0 ts.length false] 0,
    V.pcon [lst ePR s.fst, lst eN s.snd, V.scon (List.map (lst eW) ts) 0 ts.length false] 0,
    V.pcon [lst ePR s.fst, lst eN s.snd, V.scon (List.map (lst eW) ts) 0 ts.length false] 0, lst ePR s.fst,
    ii s.fst.length, ii k] ++ pois 10) (fun k => [] :: H k) (fun k => k ≤ m) (fun k => m - k) hint_104_0 (by kernel_rfl) ?_ 0 (by simp) (by simp)
 intro k hk IH
 rw [lpB_eq]
 by_cases hkm : k < m
 ·have hks : k < s.1.length := by omega
  have hst := fun L => step L k hkm
  simp (disch := omega) [if_pos, if_neg, iteK_pos, iteK_neg, hks, hst]
  exact IH (k + 1) _ _ (by omega) (by omega) (by simp)
 ·obtain rfl : k = m := by omega
  by_cases hks : k < s.1.length
  ·have hst := fun L => stop L hks
   simp (disch := omega) [if_pos, if_neg, iteK_pos, iteK_neg, hks, hst]
  ·simp (disch := omega) [if_pos, if_neg, iteK_pos, iteK_neg, hks]
theorem Walk_at (code jumps s ts) (hl : code.length ≤ 16384) (h2 : s.2.length = code.length) (ho : ∀ p ∈ s.2, p < s.1.length) (ht : ts.length = s.1.length) (hj : ∀ l ∈ ts, l.length ≤ 35184372087808)
  (hnx : ∀ i, i < code.length → ∀ x ∈ nextF code s ts i, x < code.length) (begin : Nat) (hb : begin < code.length) (ds : List Int) (hds : ds.length = code.length) (hlow : ∀ v ∈ ds, -1 ≤ v ∧ v ≤ 64) (b0 b1 b2 b3 b4 b5 T r) (W : WR)
  (hW : walkF code s ts code.length ⟨[(begin : Int)], [], 0, true⟩ (ds.set begin 0) 0 = W) :
  callV E (om E) 81 [graphV code jumps s ts, ii begin, .sref 0 6 0 code.length 0 (1, true)] (dpB b0 b1 b2 b3 b4 b5 ds T :: r) = some (.tuple [ii W.need, ii W.at_, ii W.e], dpB b0 b1 b2 b3 b4 b5 W.ds T :: r) := by
 rw [call_81]
 have hk := Walk_body code jumps s ts hl h2 ho ht hj hnx begin hb ds hds hlow b0 b1 b2 b3 b4 b5 T r W hW
 have hu : V.upL 1 [graphV code jumps s ts, ii begin, .sref 0 6 0 code.length 0 (1, true)] = [graphV code jumps s ts, ii begin, .sref 1 6 0 code.length 0 (1, true)] := by simp
 rw [hu, hk]
 simp
theorem Repeat5 (b0 b1 b2 b3 b4 : Blk) (n : Nat) (hn : 0 < n) (hl : n ≤ 16384) : callV E (om E) 79 [.sref 0 5 0 1 0 (1, true), ii n] [[b0, b1, b2, b3, b4, .row [ii (-1)] 0 1 true true]] = some (.sref 0 6 0 n 0 (1, true), [[b0, b1, b2, b3, b4, .row [ii (-1)] 0 1 true true, .row (cat eI (List.replicate n (-1))) 0 1 true true]]) := by
 rw [Repeat_at (n := n) ?_ hn hl]
 ·rfl
 ·simp; rfl
noncomputable def dsN (code : List Instr) (s : List PR × List Nat) (ts : List (List Nat)) : Nat → List Int
 | 0 => List.replicate code.length (-1)
 | k + 1 => (walkF code s ts code.length ⟨[((s.1.getD k default).b : Int)], [], 0, true⟩ ((dsN code s ts k).set (s.1.getD k default).b 0) 0).ds
noncomputable def walkN (code : List Instr) (s : List PR × List Nat) (ts : List (List Nat)) (k : Nat) : WR := walkF code s ts code.length ⟨[((s.1.getD k default).b : Int)], [], 0, true⟩ ((dsN code s ts k).set (s.1.getD k default).b 0) 0
noncomputable def needN (code : List Instr) (s : List PR × List Nat) (ts : List (List Nat)) (k : Nat) : List Int := (List.range k).map fun i => (walkN code s ts i).need
theorem dsN_succ (code s ts k) : dsN code s ts (k + 1) = (walkN code s ts k).ds := rfl
theorem needN_succ (code s ts k) : needN code s ts (k + 1) = needN code s ts k ++ [(walkN code s ts k).need] := by simp [needN, List.range_succ]
abbrev depB (G : V) (n : Nat) (c1 c2 c3 c4 : V) (p1 p2 : Bool) (ds needs : List Int) (LB : Blk) : List Blk :=
 [.row [G] 0 1 true false, .row [c1] 0 1 true p1, .row [c2] 0 1 true p2, .row [c3] 0 1 true true, .row [c4] 0 1 true true, .row [ii (-1)] 0 1 true true, .row (cat eI ds) 0 1 true true,
  .row [.sref 0 6 0 n 0 (1, true)] 0 1 false false, .row [.sref 0 9 0 needs.length needs.length (1, false)] 0 1 false false, .row (cat eI needs) needs.length 1 true true, LB]
def stopB : Blk → Blk
 | .loop fn t ps a b _ _ => .loop fn t ps a b false (some .ret)
 | b => b
theorem stopB_loop (fn t ps a b r p) : stopB (.loop fn t ps a b r p) = .loop fn t ps a b false (some .ret) := rfl
theorem AllDep (code s ts) (G : V) (LB : Blk) (m : Nat) (hm : m ≤ s.1.length) (hl : s.1.length ≤ 16384)
  (step : ∀ L (k : Nat), (hk : k < m) → roundV (om E) 1 10 [ii k, prV (s.1[k]'(by omega))] [L, depB G code.length .nilslice .nilslice (ii 0) (ii 0) true true (dsN code s ts k) (needN code s ts k) LB] = some (.bool true, [L, depB G code.length .nilslice .nilslice (ii 0) (ii 0) true true (dsN code s ts (k + 1)) (needN code s ts (k + 1)) LB]))
  (stop : ∀ L, (hk : m < s.1.length) → roundV (om E) 1 10 [ii m, prV s.1[m]] [L, depB G code.length .nilslice .nilslice (ii 0) (ii 0) true true (dsN code s ts m) (needN code s ts m) LB] = some (.bool false, [L, depB G code.length .nilslice .nilslice (ii (walkN code s ts m).at_) (ii (walkN code s ts m).e) true true (walkN code s ts m).ds (needN code s ts m) (stopB LB)])) :
  callV E (om E) 104 [.yield 0 10, .pcon [procsV s ts] 0] [[.row [G] 0 1 true false, .row [.nilslice] 0 1 true true, .row [.nilslice] 0 1 true true, .row [ii 0] 0 1 true true, .row [ii 0] 0 1 true true, .row [ii (-1)] 0 1 true true, .row (cat eI (List.replicate code.length (-1))) 0 1 true true,
  .row [.sref 0 6 0 code.length 0 (1, true)] 0 1 false false, .row [.sref 0 9 0 0 0 (1, false)] 0 1 false false, .row [] 0 1 true true, LB]] = some (.tuple [], [if m < s.1.length then depB G code.length .nilslice .nilslice (ii (walkN code s ts m).at_) (ii (walkN code s ts m).e) true true (walkN code s ts m).ds (needN code s ts m) (stopB LB) else depB G code.length .nilslice .nilslice (ii 0) (ii 0) true true (dsN code s ts m) (needN code s ts m) LB]) := by
 have := All1 s ts 10 (fun k => [if k ≤ m then depB G code.length .nilslice .nilslice (ii 0) (ii 0) true true (dsN code s ts k) (needN code s ts k) LB else depB G code.length .nilslice .nilslice (ii (walkN code s ts m).at_) (ii (walkN code s ts m).e) true true (walkN code s ts m).ds (needN code s ts m) (stopB LB)]) m hm hl
  (fun L k hk => by
   have h := step L k hk
   rw [if_pos (show k ≤ m by omega), if_pos (show k + 1 ≤ m by omega)]; exact h)
  (fun L hk => by
   have h := stop L hk
   rw [if_pos (Nat.le_refl m), if_neg (show ¬ m + 1 ≤ m by omega)]; exact h)
 rw [if_pos (Nat.zero_le m)] at this
 refine Eq.trans this ?_
 by_cases h : m < s.1.length
 ·rw [if_pos h, if_neg (show ¬ m + 1 ≤ m by omega), if_pos h]
 ·rw [if_neg h, if_pos (Nat.le_refl m), if_neg h]
abbrev depE (G : V) (n : Nat) (ds needs : List Int) (a e : V) : List Blk :=
 [.row [G] 0 1 true false, .row [.nilslice] 0 1 true true, .row [.nilslice] 0 1 true true, .row [a] 0 1 true true, .row [e] 0 1 true true, .row [ii (-1)] 0 1 true true, .row (cat eI ds) 0 1 true true,
  .row [.sref 0 6 0 n 0 (1, true)] 0 1 false false, .row [.sref 0 9 0 needs.length needs.length (1, false)] 0 1 false false, .row (cat eI needs) needs.length 1 true true]
abbrev depO (G : V) (n : Nat) (ds needs : List Int) (T : Nat) : List Blk :=
 [.row [G] 0 1 true false, .row [.sref 0 (T + 6) 0 n 0 (1, true)] 0 1 false false, .row [.sref 0 (T + 9) 0 needs.length needs.length (1, false)] 0 1 false false, .row [ii 0] 0 1 true true, .row [ii 0] 0 1 true true, .row [ii (-1)] 0 1 true true, .row (cat eI ds) 0 1 true true,
  .row [.sref 0 (T + 6) 0 n 0 (1, true)] 0 1 false false, .row [.sref 0 (T + 9) 0 needs.length needs.length (1, false)] 0 1 false false, .row (cat eI needs) needs.length 1 true true]
noncomputable def depR (code : List Instr) (jumps : List Nat) (s : List PR × List Nat) (ts : List (List Nat)) (m : Nat) : V × Heap :=
 if m < s.1.length then (.tuple [.nilslice, .nilslice, ii (walkN code s ts m).at_, ii (walkN code s ts m).e], [depE (graphV code jumps s ts) code.length (walkN code s ts m).ds (needN code s ts m) (ii (walkN code s ts m).at_) (ii (walkN code s ts m).e)])
 else (.tuple [.sref 0 6 0 code.length 0 (1, true), .sref 0 9 0 s.1.length s.1.length (1, false), ii 0, ii 0], [depO (graphV code jumps s ts) code.length (dsN code s ts s.1.length) (needN code s ts s.1.length) 0])
theorem GDepths_body (code jumps s ts) (hn : 0 < code.length) (hl : code.length ≤ 16384) (hs0 : 0 < s.1.length) (hs1 : s.1.length ≤ 16384) (h2 : s.2.length = code.length) (ho : ∀ p ∈ s.2, p < s.1.length) (ht : ts.length = s.1.length) (hj : ∀ l ∈ ts, l.length ≤ 35184372087808)
  (hnx : ∀ i, i < code.length → ∀ x ∈ nextF code s ts i, x < code.length) (hbg : ∀ p ∈ s.1, p.b < code.length)
  (m : Nat) (hm : m ≤ s.1.length) (hok : ∀ k, k < m → (walkN code s ts k).e = 0) (hbad : m < s.1.length → (walkN code s ts m).e ≠ 0)
  (hds : ∀ k, k ≤ m → (dsN code s ts k).length = code.length ∧ ∀ v ∈ dsN code s ts k, -1 ≤ v ∧ v ≤ 64) : bodyV E (om E) 52 [graphV code jumps s ts] [[]] = some (depR code jumps s ts m) := by
 have hAll : pureV E (om E) 80 false [procsV s ts] = some (allV s ts) := ProcsAll s ts
 have hw : ∀ k, (hk : k < s.1.length) → k ≤ m → ∀ b0 b1 b2 b3 b4 b5 T r, _ := fun k hk hkm b0 b1 b2 b3 b4 b5 T r => Walk_at code jumps s ts hl h2 ho ht hj hnx s.1[k].b (hbg _ (List.getElem_mem hk)) (dsN code s ts k) (hds k hkm).1 (hds k hkm).2 b0 b1 b2 b3 b4 b5 T r (walkN code s ts k) (by unfold walkN; rw [getD_lt hk])
 have hG : graphV code jumps s ts = .pcon [lst eInstr code, lst eW jumps, procsV s ts] 0 := rfl
 apply bo_52
 simp (disch := omega) [if_pos, if_neg, iteK_pos, iteK_neg, Tryz.f52, canon_lsts, Repeat5, hAll]
 refine range_of hint_52_0 ?_
 simp (disch := omega) [if_pos, if_neg, iteK_pos, iteK_neg]
 have hA := fun LB => AllDep code s ts (.pcon [lst eInstr code, lst eW jumps, procsV s ts] 0) LB m hm hs1
 rw [hA _ ?step ?stop]
 case step =>
  intro L k hk
  have hks : k < s.1.length := by omega
  have hwk := hw k hks (by omega)
  have hbk := hbg _ (List.getElem_mem hks)
  have hek := hok k hk
  have hnl : (needN code s ts k).length = k := by simp [needN]
  clear hA hw
  rw [hG] at hwk
  rw [dsN_succ, needN_succ]
  refine round_eq (dyn := []) rfl rfl (by simp; rfl) (by kernel_rfl) (by kernel_rfl) ?_
  simp (maxSteps := 3000000) (disch := omega) [if_pos, if_neg, iteK_pos, iteK_neg, hwk, hek]
  rw [cat_append]; rfl
 case stop =>
  intro L hks
  have hwk := hw m hks (by omega)
  have hbk := hbg _ (List.getElem_mem hks)
  have hek := hbad hks
  have hnl : (needN code s ts m).length = m := by simp [needN]
  clear hA hw
  rw [hG] at hwk
  refine round_eq (dyn := []) rfl rfl (by simp; rfl) (by kernel_rfl) (by kernel_rfl) ?_
  simp (disch := omega) [if_pos, if_neg, iteK_pos, iteK_neg, hwk, hek, stopB_loop]
 clear hA hw
 unfold depR
 by_cases hmp : m < s.1.length
 ·simp (disch := omega) [if_pos, if_neg, iteK_pos, iteK_neg, hmp, stopB_loop]
 ·obtain rfl : m = s.1.length := by omega
  have hdl := (hds s.1.length (Nat.le_refl _)).1
  simp (disch := omega) [if_pos, if_neg, iteK_pos, iteK_neg, stopB_loop]
  rw [iteK_pos (by kernel_rfl)]
  have hnl : (needN code s ts s.1.length).length = s.1.length := by simp [needN]
  simp (disch := omega) [if_pos, if_neg, iteK_pos, iteK_neg, hdl, hnl]
end Go.Proofs.YtfplmcpkagpaiaaGreatDoor.Fl
end
section
namespace Go.Proofs.YtfplmcpkagpaiaaGreatDoor.Fl
open Go Go.Sim
abbrev PRs := List PR × List Nat
def prOf (s : PRs) (k : Nat) : PR := s.1.getD k default
def ofI (s : PRs) (i : Nat) : Nat := s.2.getD i 0
theorem getD_app {α : Type} {l : List α} {x d : α} {i : Nat} (h : i < l.length) : (l ++ [x]).getD i d = l.getD i d := by
 rw [getD_lt h, getD_lt (by simp; omega), List.getElem_append_left h]
theorem getD_end {α : Type} {l : List α} {x d : α} {i : Nat} (h : i = l.length) : (l ++ [x]).getD i d = x := by
 subst h; rw [getD_lt (by simp)]; simp
structure CutOk (code : List Instr) (n : Nat) (s : PRs) : Prop where
 len : s.2.length = n
 lt : ∀ i, i < n → ofI s i < s.1.length
 ins : ∀ i, i < n → (prOf s (ofI s i)).b ≤ i ∧ i < (prOf s (ofI s i)).e
 pr : ∀ k, k < s.1.length → (prOf s k).b < (prOf s k).e ∧ (prOf s k).e ≤ n ∧ (code.getD (prOf s k).b default).op = 3
 conv : ∀ k, k < s.1.length → ∀ j, (prOf s k).b ≤ j → j < (prOf s k).e → ofI s j = k
 ent : ∀ i, i < n → (code.getD i default).op = 3 → (prOf s (ofI s i)).b = i
 last : 0 < s.1.length → (prOf s (s.1.length - 1)).e = n
theorem cut_ok {code : List Instr} (h0 : (code.getD 0 default).op = 3) : ∀ n, CutOk code n (cutN code n)
 | 0 => by
  constructor <;> simp [cutN]
 | n + 1 => by
  have ih := cut_ok h0 n
  rw [cutN]
  by_cases hx : (code.getD n default).op = 3
  ·rw [cutS_enter hx]
   generalize cutN code n = s at ih ⊢
   obtain ⟨ps, os⟩ := s
   obtain ⟨i1, i2, i3, i4, i5, i6, i7⟩ := ih
   simp only [prOf, ofI] at *
   have hO : ∀ i, i < n → (os ++ [ps.length]).getD i 0 = os.getD i 0 := fun i h => getD_app (by omega)
   have hOn : (os ++ [ps.length]).getD n 0 = ps.length := getD_end i1.symm
   have hP : ∀ k, k < ps.length → (ps ++ [(⟨n, n + 1, (code.getD n default).arg⟩ : PR)]).getD k default = ps.getD k default := fun k h => getD_app h
   have hPn : (ps ++ [(⟨n, n + 1, (code.getD n default).arg⟩ : PR)]).getD ps.length default = ⟨n, n + 1, (code.getD n default).arg⟩ := getD_end rfl
   refine ⟨by simp [i1], fun i hi => ?_, fun i hi => ?_, fun k hk => ?_, fun k hk j h1 h2 => ?_, fun i hi h => ?_, fun _ => ?_⟩
   all_goals simp only [prOf, ofI] at *
   ·rw [List.length_append, List.length_singleton]
    by_cases hin : i < n
    ·rw [hO i hin]; have := i2 i hin; omega
    ·obtain rfl : i = n := by omega
     rw [hOn]; omega
   ·by_cases hin : i < n
    ·rw [hO i hin, hP _ (i2 i hin)]; exact i3 i hin
    ·obtain rfl : i = n := by omega
     rw [hOn, hPn]; dsimp only; omega
   ·rw [List.length_append, List.length_singleton] at hk
    by_cases hkp : k < ps.length
    ·rw [hP k hkp]; have := i4 k hkp; exact ⟨this.1, by omega, this.2.2⟩
    ·obtain rfl : k = ps.length := by omega
     rw [hPn]; dsimp only; exact ⟨by omega, by omega, hx⟩
   ·rw [List.length_append, List.length_singleton] at hk
    by_cases hkp : k < ps.length
    ·rw [hP k hkp] at h1 h2
     have := i4 k hkp
     rw [hO j (by omega)]
     exact i5 k hkp j h1 h2
    ·obtain rfl : k = ps.length := by omega
     rw [hPn] at h1 h2
     dsimp only at h1 h2
     obtain rfl : j = n := by omega
     exact hOn
   ·by_cases hin : i < n
    ·rw [hO i hin, hP _ (i2 i hin)]; exact i6 i hin h
    ·obtain rfl : i = n := by omega
     rw [hOn, hPn]
   ·rw [List.length_append, List.length_singleton, Nat.add_sub_cancel, hPn]
  ·have hpos : 0 < (cutN code n).1.length := cutN_pos h0 (by
    rcases Nat.eq_zero_or_pos n with h | h
    ·subst h; exact absurd h0 hx
    ·exact h)
   obtain ⟨qs, q, hq⟩ : ∃ qs q, (cutN code n).1 = qs ++ [q] := by
    have hne : (cutN code n).1 ≠ [] := by intro h; rw [h] at hpos; simp at hpos
    exact ⟨_, _, (List.dropLast_concat_getLast hne).symm⟩
   rw [show cutN code n = (qs ++ [q], (cutN code n).2) from Prod.ext hq rfl] at ih ⊢
   rw [cutS_on hx]
   generalize (cutN code n).2 = os at ih ⊢
   obtain ⟨i1, i2, i3, i4, i5, i6, i7⟩ := ih
   simp only [prOf, ofI, List.length_append, List.length_singleton, Nat.add_sub_cancel] at *
   have hO : ∀ i, i < n → (os ++ [qs.length]).getD i 0 = os.getD i 0 := fun i h => getD_app (by omega)
   have hOn : (os ++ [qs.length]).getD n 0 = qs.length := getD_end i1.symm
   have hP : ∀ k, k < qs.length → (qs ++ [({ q with e := n + 1 } : PR)]).getD k default = qs.getD k default := fun k h => getD_app h
   have hPn : (qs ++ [({ q with e := n + 1 } : PR)]).getD qs.length default = { q with e := n + 1 } := getD_end rfl
   have hQ : ∀ k, k < qs.length → (qs ++ [q]).getD k default = qs.getD k default := fun k h => getD_app h
   have hQn : (qs ++ [q]).getD qs.length default = q := getD_end rfl
   have e7 := i7 (by omega)
   rw [hQn] at e7
   have e4 := i4 qs.length (by omega)
   rw [hQn] at e4
   refine ⟨by simp [i1], fun i hi => ?_, fun i hi => ?_, fun k hk => ?_, fun k hk j h1 h2 => ?_, fun i hi h => ?_, fun _ => ?_⟩
   all_goals simp only [prOf, ofI, List.length_append, List.length_singleton, Nat.add_sub_cancel] at *
   ·by_cases hin : i < n
    ·rw [hO i hin]; have := i2 i hin; omega
    ·obtain rfl : i = n := by omega
     rw [hOn]; omega
   ·by_cases hin : i < n
    ·rw [hO i hin]
     have h3 := i3 i hin
     have h2 := i2 i hin
     by_cases hk : os.getD i 0 < qs.length
     ·rw [hP _ hk]; rw [hQ _ hk] at h3; exact h3
     ·have hk' : os.getD i 0 = qs.length := by omega
      rw [hk', hPn]; rw [hk', hQn] at h3; dsimp only; omega
    ·obtain rfl : i = n := by omega
     rw [hOn, hPn]; dsimp only; omega
   ·by_cases hkp : k < qs.length
    ·rw [hP k hkp]; have := i4 k (by omega); rw [hQ k hkp] at this; exact ⟨this.1, by omega, this.2.2⟩
    ·obtain rfl : k = qs.length := by omega
     rw [hPn]; dsimp only; exact ⟨by omega, by omega, e4.2.2⟩
   ·by_cases hkp : k < qs.length
    ·rw [hP k hkp] at h1 h2
     have h4 := i4 k (by omega)
     have h5 := i5 k (by omega) j
     rw [hQ k hkp] at h4 h5
     rw [hO j (by omega)]
     exact h5 h1 h2
    ·obtain rfl : k = qs.length := by omega
     rw [hPn] at h1 h2
     dsimp only at h1 h2
     by_cases hj : j < n
     ·rw [hO j hj]
      have h5 := i5 qs.length (by omega) j
      rw [hQn] at h5
      exact h5 h1 (by omega)
     ·obtain rfl : j = n := by omega
      exact hOn
   ·by_cases hin : i < n
    ·rw [hO i hin]
     have h6 := i6 i hin h
     have h2 := i2 i hin
     by_cases hk : os.getD i 0 < qs.length
     ·rw [hP _ hk]; rw [hQ _ hk] at h6; exact h6
     ·have hk' : os.getD i 0 = qs.length := by omega
      rw [hk', hPn]; rw [hk', hQn] at h6; exact h6
    ·obtain rfl : i = n := by omega
     exact absurd h hx
   ·rw [hPn]
end Go.Proofs.YtfplmcpkagpaiaaGreatDoor.Fl
end
section
namespace Go.Proofs.YtfplmcpkagpaiaaGreatDoor.Fl
open Go Go.Sim
theorem getD_set {α : Type} {l : List α} {n j : Nat} {v d : α} : (l.set n v).getD j d = if n = j ∧ j < l.length then v else l.getD j d := by
 by_cases hj : j < l.length
 ·rw [getD_lt (by simpa using hj), List.getElem_set, getD_lt hj]
  by_cases h : n = j <;> simp [h, hj]
 ·rw [getD_ge (by simp; omega), getD_ge (by omega), if_neg (by omega)]
theorem tgt_in {code : List Instr} {s : PRs} {jumps : List Nat} (hb : ∀ i, i < jumps.length → ¬ badJ s jumps i) : ∀ m, m ≤ jumps.length → ∀ k, ∀ x ∈ (tgtN s jumps m).getD k [], x < s.2.length ∧ ofI s x = k ∧ insideF (prOf s k) x = true
 | 0, _, k, x, hx => by
  rw [tgtN] at hx
  by_cases hk : k < s.1.length
  ·rw [getD_lt (by simpa using hk)] at hx; simp at hx
  ·rw [getD_ge (by simp; omega)] at hx; simp at hx
 | m + 1, hm, k, x, hx => by
  rw [tgtN, getD_set] at hx
  have ih := tgt_in (code := code) hb m (by omega)
  split at hx
  ·rename_i hc
   rcases List.mem_append.mp hx with h | h
   ·rw [hc.1] at h; exact ih k x h
   ·simp only [List.mem_singleton] at h
    have hbm := hb m (by omega)
    unfold badJ at hbm
    rw [← h] at hbm
    simp only [not_or, not_and, Nat.not_le] at hbm
    obtain ⟨_, b2, b3⟩ := hbm
    have hk : ofI s x = k := by rw [← hc.1, ← h]; rfl
    refine ⟨b2, hk, ?_⟩
    have : prOf s k = s.1.getD (s.2.getD x 0) default := by rw [← hk]; rfl
    rw [this]
    simpa using b3
  ·exact ih k x hx
theorem next_in {code : List Instr} {jumps : List Nat} (h : FindOk code jumps) {i : Nat} (hi : i < code.length) : ∀ x ∈ nextF code (cutF code) (tgtN (cutF code) jumps jumps.length) i, x < code.length ∧ ofI (cutF code) x = ofI (cutF code) i ∧ (prOf (cutF code) (ofI (cutF code) i)).b < x := by
 have hc : CutOk code code.length (cutF code) := cut_ok h.first code.length
 have hf := h.faults i hi
 have ht := tgt_in (code := code) h.jumps jumps.length (Nat.le_refl _)
 generalize tgtN (cutF code) jumps jumps.length = ts at *
 generalize cutF code = s at *
 have hin := hc.ins i hi
 have hlt := hc.lt i hi
 have hpr := hc.pr _ hlt
 have hcv := hc.conv _ hlt
 have hP : faultF (prOf s (ofI s i)) i (code.getD i default) = 0 := hf
 unfold faultF at hP
 have inside : ∀ x, insideF (prOf s (ofI s i)) x = true → x < code.length ∧ ofI s x = ofI s i ∧ (prOf s (ofI s i)).b < x := by
  intro x hx
  simp only [insideF, decide_eq_true_eq] at hx
  exact ⟨by omega, hcv x (by omega) hx.2, hx.1⟩
 have behind : endsF (kindF (code.getD i default).op) = false → kindF (code.getD i default).op ≠ 7 → i + 1 < code.length ∧ ofI s (i + 1) = ofI s i ∧ (prOf s (ofI s i)).b < i + 1 := by
  intro he h7
  have hne : i + 1 ≠ (prOf s (ofI s i)).e := by
   intro h
   rw [if_neg h7] at hP
   split at hP
   ·omega
   ·split at hP
    ·omega
    ·rw [if_pos ⟨h, he⟩] at hP; omega
  exact ⟨by omega, hcv _ (by omega) (by omega), by omega⟩
 have to : (kindF (code.getD i default).op = 3 ∨ kindF (code.getD i default).op = 2) → insideF (prOf s (ofI s i)) (code.getD i default).arg = true := by
  intro hk
  rw [if_neg (show ¬ kindF (code.getD i default).op = 7 by omega)] at hP
  split at hP
  ·omega
  ·by_cases hh : insideF (prOf s (ofI s i)) (code.getD i default).arg = true
   ·exact hh
   ·rw [if_pos ⟨hk, by simpa using hh⟩] at hP; omega
 intro x hx
 unfold nextF at hx
 dsimp only at hx
 by_cases k1 : kindF (code.getD i default).op = 1 ∨ kindF (code.getD i default).op = 6 ∨ kindF (code.getD i default).op = 5
 ·rw [if_pos k1] at hx
  simp only [List.mem_singleton] at hx
  subst hx
  exact behind (by simp only [endsF, decide_eq_false_iff_not]; omega) (by omega)
 ·rw [if_neg k1] at hx
  by_cases k2 : kindF (code.getD i default).op = 2
  ·rw [if_pos k2] at hx
   have h1 := behind (by simp only [endsF, decide_eq_false_iff_not]; omega) (by omega)
   have h2 := inside _ (to (.inr k2))
   have : x = i + 1 ∨ x = (code.getD i default).arg := by
    split at hx
    ·simp only [List.mem_singleton] at hx; exact .inl hx
    ·simp only [List.mem_cons, List.not_mem_nil, or_false] at hx
     rcases hx with h | h <;> omega
   rcases this with h | h
   ·subst h; exact h1
   ·subst h; exact h2
  ·rw [if_neg k2] at hx
   by_cases k3 : kindF (code.getD i default).op = 3
   ·rw [if_pos k3] at hx
    simp only [List.mem_singleton] at hx
    subst hx
    exact inside _ (to (.inl k3))
   ·rw [if_neg k3] at hx
    by_cases k4 : kindF (code.getD i default).op = 4
    ·rw [if_pos k4] at hx
     have := ht (ofI s i) x hx
     exact inside _ this.2.2
    ·rw [if_neg k4] at hx; simp at hx
theorem nextL_keep (d2 : Int) : ∀ l m ds j, 0 ≤ List.getD ds j 0 → (nextL d2 l m ds).2.1.getD j 0 = ds.getD j 0
 | [], m, ds, j, _ => rfl
 | x :: l, m, ds, j, h => by
  rw [nextL]; split
  ·rename_i hc
   have hxj : x ≠ j := by intro e; subst e; omega
   have e : (ds.set x d2).getD j 0 = ds.getD j 0 := by rw [getD_set, if_neg (by omega)]
   rw [nextL_keep d2 l _ _ j (by rw [e]; exact h), e]
  ·split
   ·exact nextL_keep d2 l m ds j h
   ·rfl
theorem nextL_other (d2 : Int) : ∀ l m ds j, j ∉ l → (nextL d2 l m ds).2.1.getD j 0 = List.getD ds j 0
 | [], m, ds, j, _ => rfl
 | x :: l, m, ds, j, h => by
  have hx : x ≠ j := by intro e; subst e; simp at h
  have hl : j ∉ l := fun hh => h (List.mem_cons_of_mem _ hh)
  rw [nextL]; split
  ·rw [nextL_other d2 l _ _ j hl, getD_set, if_neg (by omega)]
  ·split
   ·exact nextL_other d2 l m ds j hl
   ·rfl
theorem nextL_waits (d2 : Int) : ∀ l m ds, ∀ y, y ∈ (nextL d2 l m ds).1.w ↔ y ∈ m.w ∨ (y ∈ (nextL d2 l m ds).1.w ∧ ∃ x ∈ l, y = (x : Int))
 | [], m, ds, y => by simp [nextL]
 | x :: l, m, ds, y => by
  rw [nextL]; split
  ·have ih := nextL_waits d2 l (m.push x) (ds.set x d2) y
   have hp : y ∈ (m.push x).w ↔ y = (x : Int) ∨ y ∈ m.w := by
    show y ∈ pushF m.w x ↔ _
    rw [(pushF_perm m.w x).mem_iff, List.mem_cons]
   constructor
   ·intro h
    rcases ih.mp h with h1 | ⟨h1, z, hz, e⟩
    ·rcases hp.mp h1 with h2 | h2
     ·exact .inr ⟨h, x, by simp, h2⟩
     ·exact .inl h2
    ·exact .inr ⟨h, z, List.mem_cons_of_mem _ hz, e⟩
   ·rintro (h | h)
    ·exact ih.mpr (.inl (hp.mpr (.inr h)))
    ·exact h.1
  ·split
   ·have ih := nextL_waits d2 l m ds y
    constructor
    ·intro h
     rcases ih.mp h with h1 | ⟨h1, z, hz, e⟩
     ·exact .inl h1
     ·exact .inr ⟨h, z, List.mem_cons_of_mem _ hz, e⟩
    ·rintro (h | h)
     ·exact ih.mpr (.inl h)
     ·exact h.1
   ·constructor
    ·exact .inl
    ·rintro (h | h)
     ·exact h
     ·exact h.1
theorem nextL_new (d2 : Int) : ∀ l m ds j, j < ds.length → 0 ≤ (nextL d2 l m ds).2.1.getD j 0 → 0 ≤ ds.getD j 0 ∨ (j : Int) ∈ (nextL d2 l m ds).1.w
 | [], m, ds, j, _, h => .inl h
 | x :: l, m, ds, j, hj, h => by
  rw [nextL] at h ⊢; split at h
  ·rename_i hc
   rw [if_pos hc]
   rcases nextL_new d2 l (m.push x) (ds.set x d2) j (by simpa using hj) h with h1 | h1
   ·by_cases e : x = j
    ·subst e
     refine .inr ((nextL_waits d2 l (m.push x) (ds.set x d2) x).mpr (.inl ?_))
     exact (pushF_perm m.w x).mem_iff.mpr (by simp)
    ·rw [getD_set, if_neg (by omega)] at h1; exact .inl h1
   ·exact .inr h1
  ·rename_i hc
   rw [if_neg hc]
   split at h
   ·rename_i hc2; rw [if_pos hc2]; exact nextL_new d2 l m ds j hj h
   ·exact .inl h
theorem nextL_all {d2 : Int} (h0 : 0 ≤ d2) : ∀ l m ds, (nextL d2 l m ds).2.2 = true → ∀ x ∈ l, x < ds.length → (nextL d2 l m ds).2.1.getD x 0 = d2
 | [], m, ds, _, x, hx, _ => by simp at hx
 | y :: l, m, ds, h, x, hx, hxl => by
  rw [nextL] at h ⊢
  split at h
  ·rename_i hc
   rw [if_pos hc]
   by_cases e : x = y
   ·subst e
    have hk : (ds.set x d2).getD x 0 = d2 := by rw [getD_set, if_pos ⟨rfl, hxl⟩]
    rw [nextL_keep d2 l _ _ x (by rw [hk]; exact h0), hk]
   ·rcases List.mem_cons.mp hx with h1 | h1
    ·exact absurd h1 e
    ·exact nextL_all h0 l _ _ h x h1 (by simpa using hxl)
  ·rename_i hc
   rw [if_neg hc]
   split at h
   ·rename_i hc2
    rw [if_pos hc2]
    by_cases e : x = y
    ·subst e
     rw [nextL_keep d2 l m ds x (by rw [hc2]; exact h0), hc2]
    ·rcases List.mem_cons.mp hx with h1 | h1
     ·exact absurd h1 e
     ·exact nextL_all h0 l m ds h x h1 hxl
   ·simp at h
def leftF (code : List Instr) (ds : List Int) (j : Nat) : Int := ds.getD j 0 - takesF (code.getD j default).op + givesF (code.getD j default).op
structure Done (code : List Instr) (s : PRs) (ts : List (List Nat)) (ds : List Int) (need : Int) (j : Nat) : Prop where
 takes : (takesF (code.getD j default).op : Int) ≤ ds.getD j 0
 most : ds.getD j 0 ≤ need
 left : leftF code ds j ≤ need
 leave : kindF (code.getD j default).op = 7 → ds.getD j 0 = 1
 next : ∀ x ∈ nextF code s ts j, ds.getD x 0 = leftF code ds j
theorem Done.mono {code s ts ds ds' need need' j} (h : Done code s ts ds need j) (hn : need ≤ need') (hk : ∀ x, 0 ≤ List.getD ds x 0 → ds'.getD x 0 = ds.getD x 0) : Done code s ts ds' need' j := by
 have h0 : 0 ≤ ds.getD j 0 := by have := h.takes; omega
 have hj := hk j h0
 have hl : leftF code ds' j = leftF code ds j := by unfold leftF; rw [hj]
 have hl0 : 0 ≤ leftF code ds j := by have := h.takes; unfold leftF; omega
 refine ⟨by rw [hj]; exact h.takes, by rw [hj]; have := h.most; omega, by rw [hl]; have := h.left; omega, by rw [hj]; exact h.leave, fun x hx => ?_⟩
 have hx' := h.next x hx
 rw [hl, hk x (by rw [hx']; exact hl0), hx']
theorem walk_keep (code s ts) : ∀ f m ds need j, 0 ≤ List.getD ds j 0 → (walkF code s ts f m ds need).ds.getD j 0 = ds.getD j 0
 | 0, m, ds, need, j, h => rfl
 | f + 1, m, ds, need, j, h => by
  rw [walkF]
  split
  ·rfl
  ·split
   ·rfl
   ·split
    ·rfl
    ·split
     ·rfl
     ·have hk := nextL_keep (ds.getD (popF m.w).1.toNat 0 - takesF (code.getD (popF m.w).1.toNat default).op + givesF (code.getD (popF m.w).1.toNat default).op) (nextF code s ts (popF m.w).1.toNat) m.pop ds j h
      split
      ·rw [walk_keep code s ts f _ _ _ j (by rw [hk]; exact h), hk]
      ·exact hk
end Go.Proofs.YtfplmcpkagpaiaaGreatDoor.Fl
end
section
namespace Go.Proofs.YtfplmcpkagpaiaaGreatDoor.Fl
open Go Go.Sim
structure WInv (code : List Instr) (s : PRs) (ts : List (List Nat)) (k : Nat) (ds0 : List Int) (m : HM) (ds : List Int) (need : Int) : Prop where
 ok : WOk code.length m.w ds
 wk : ∀ x ∈ m.w, ofI s x.toNat = k ∧ 0 ≤ ds.getD x.toNat 0
 dn : ∀ j, j < code.length → ofI s j = k → 0 ≤ ds.getD j 0 → (j : Int) ∈ m.w ∨ Done code s ts ds need j
 oth : ∀ j, ofI s j ≠ k → ds.getD j 0 = ds0.getD j 0
 n0 : 0 ≤ need
 n64 : need ≤ 64
structure WEnd (code : List Instr) (s : PRs) (ts : List (List Nat)) (k : Nat) (ds0 : List Int) (W : WR) : Prop where
 len : W.ds.length = code.length
 low : ∀ v ∈ W.ds, -1 ≤ v ∧ v ≤ 64
 dn : ∀ j, j < code.length → ofI s j = k → 0 ≤ W.ds.getD j 0 → Done code s ts W.ds W.need j
 oth : ∀ j, ofI s j ≠ k → W.ds.getD j 0 = ds0.getD j 0
 n0 : 0 ≤ W.need
 n64 : W.need ≤ 64
theorem walk_sound {code : List Instr} {s : PRs} {ts : List (List Nat)} {k : Nat} {ds0 : List Int} (hnx : ∀ i, i < code.length → ∀ x ∈ nextF code s ts i, x < code.length ∧ ofI s x = ofI s i) :
  ∀ f m ds need, WInv code s ts k ds0 m ds need → m.w.length + neg ds ≤ f → (walkF code s ts f m ds need).e = 0 → WEnd code s ts k ds0 (walkF code s ts f m ds need) := by
 have fin : ∀ m ds need, WInv code s ts k ds0 m ds need → m.w.length = 0 → WEnd code s ts k ds0 ⟨need, 0, 0, ds, m, []⟩ := by
  intro m ds need h hw
  refine ⟨h.ok.len, h.ok.low, fun j hj hk h0 => ?_, h.oth, h.n0, h.n64⟩
  rcases h.dn j hj hk h0 with h1 | h1
  ·have : m.w = [] := List.length_eq_zero_iff.mp hw
   rw [this] at h1; simp at h1
  ·exact h1
 intro f
 induction f with
 | zero => intro m ds need h hf he; rw [walkF]; exact fin m ds need h (by omega)
 | succ f ih =>
  intro m ds need h hf he
  rw [walkF] at he ⊢
  by_cases c0 : m.w.length = 0
  ·rw [if_pos c0]; exact fin m ds need h c0
  ·rw [if_neg c0] at he ⊢
   obtain ⟨p0, p1, hok'⟩ := popOk h.ok (by omega)
   have hpp := popF_perm (l := m.w) (by omega)
   have hpl := popF_len (l := m.w) (by omega)
   obtain ⟨i, hi⟩ := Int.eq_ofNat_of_zero_le p0
   rw [hi] at p1 he ⊢
   rw [Int.toNat_natCast] at he ⊢
   have hin : i < code.length := by omega
   have hiw : (i : Int) ∈ m.w := hpp.mem_iff.mp (by rw [hi]; simp)
   have hik := h.wk _ hiw
   rw [Int.toNat_natCast] at hik
   have hdl : ds.getD i 0 - takesF (code.getD i default).op + givesF (code.getD i default).op = leftF code ds i := rfl
   rw [hdl] at he ⊢
   by_cases c1 : ds.getD i 0 < takesF (code.getD i default).op
   ·rw [if_pos c1] at he; simp at he
   ·rw [if_neg c1] at he ⊢
    by_cases c2 : 64 < leftF code ds i
    ·rw [if_pos c2] at he; simp at he
    ·rw [if_neg c2] at he ⊢
     by_cases c3 : kindF (code.getD i default).op = 7 ∧ ds.getD i 0 ≠ 1
     ·rw [if_pos c3] at he; simp at he
     ·rw [if_neg c3] at he ⊢
      have hd0 : 0 ≤ leftF code ds i := by unfold leftF; omega
      have hxi := hnx i hin
      have k1 := nextL_keep (leftF code ds i) (nextF code s ts i) m.pop ds
      have k2 := nextL_other (leftF code ds i) (nextF code s ts i) m.pop ds
      have k3 := nextL_waits (leftF code ds i) (nextF code s ts i) m.pop ds
      have k4 := nextL_new (leftF code ds i) (nextF code s ts i) m.pop ds
      have k5 := nextL_all hd0 (nextF code s ts i) m.pop ds
      have k6 := nextL_meas (m := m.pop) (ds := ds) hd0 (show leftF code ds i ≤ 64 by omega) (fun x hx => (hxi x hx).1) hok'
      generalize nextL (leftF code ds i) (nextF code s ts i) m.pop ds = x at *
      obtain ⟨m', ds', b⟩ := x
      dsimp only at *
      by_cases c4 : b = true
      ·rw [if_pos c4] at he ⊢
       have hdlow : ds.getD i 0 ≤ 64 := by
        rw [getD_lt (by rw [h.ok.len]; exact hin)]
        exact (h.ok.low _ (List.getElem_mem _)).2
       have hpw : m.pop.w = (popF m.w).2 := rfl
       refine ih m' ds' _ ⟨k6.1, fun y hy => ?_, fun j hj hjk h0 => ?_, fun j hjk => ?_, by have := h.n0; omega, by have := h.n64; omega⟩ ?_ he
       ·rcases (k3 y).mp hy with h1 | ⟨_, z, hz, e⟩
        ·have hyw : y ∈ m.w := hpp.mem_iff.mp (List.mem_cons_of_mem _ (hpw ▸ h1))
         have := h.wk y hyw
         exact ⟨this.1, by rw [k1 _ this.2]; exact this.2⟩
        ·subst e
         rw [Int.toNat_natCast]
         have hz' := hxi z hz
         exact ⟨by rw [hz'.2]; exact hik.1, by rw [k5 c4 z hz (by rw [h.ok.len]; exact hz'.1)]; exact hd0⟩
       ·have hdi : Done code s ts ds' (max (max need (ds.getD i 0)) (leftF code ds i)) i := by
         have e1 := k1 i hik.2
         have e2 : leftF code ds' i = leftF code ds i := by unfold leftF; rw [e1]
         refine ⟨by rw [e1]; omega, by rw [e1]; omega, by rw [e2]; omega, fun h7 => ?_, fun z hz => ?_⟩
         ·rw [e1]
          exact Classical.byContradiction fun hn => c3 ⟨h7, hn⟩
         ·rw [e2]
          exact k5 c4 z hz (by rw [h.ok.len]; exact (hxi z hz).1)
        by_cases hji : j = i
        ·subst hji; exact .inr hdi
        ·rcases k4 j (by rw [h.ok.len]; exact hj) h0 with h1 | h1
         ·rcases h.dn j hj hjk h1 with h2 | h2
          ·refine .inl ((k3 j).mpr (.inl ?_))
           rw [hpw]
           have := hpp.mem_iff.mpr h2
           rcases List.mem_cons.mp this with h3 | h3
           ·rw [hi] at h3; omega
           ·exact h3
          ·exact .inr (h2.mono (by omega) k1)
         ·exact .inl h1
       ·rw [← h.oth j hjk]
        exact k2 j (fun hj => hjk (by rw [(hxi j hj).2]; exact hik.1))
       ·rw [k6.2, hpw]; omega
      ·rw [if_neg c4] at he; simp at he
structure DInv (code : List Instr) (s : PRs) (ts : List (List Nat)) (k : Nat) (ds : List Int) : Prop where
 len : ds.length = code.length
 low : ∀ v ∈ ds, -1 ≤ v ∧ v ≤ 64
 new : ∀ j, j < code.length → k ≤ ofI s j → ds.getD j 0 = -1
 dn : ∀ j, j < code.length → ofI s j < k → 0 ≤ ds.getD j 0 → Done code s ts ds (walkN code s ts (ofI s j)).need j
 need : ∀ i, i < k → 0 ≤ (walkN code s ts i).need ∧ (walkN code s ts i).need ≤ 64
 begin : ∀ i, i < k → ds.getD (prOf s i).b 0 = 0
theorem ds_inv {code : List Instr} {s : PRs} {ts : List (List Nat)} (hc : CutOk code code.length s) (hnx : ∀ i, i < code.length → ∀ x ∈ nextF code s ts i, x < code.length ∧ ofI s x = ofI s i) :
  ∀ k, k ≤ s.1.length → (∀ i, i < k → (walkN code s ts i).e = 0) → DInv code s ts k (dsN code s ts k)
 | 0, _, _ => by
  refine ⟨by simp [dsN], fun v hv => ?_, fun j hj _ => ?_, fun j _ h => by omega, fun i h => by omega, fun i h => by omega⟩
  ·simp [dsN] at hv; omega
  ·rw [dsN, getD_lt (by simpa using hj)]; simp
 | k + 1, hk, he => by
  have ih := ds_inv hc hnx k (by omega) (fun i hi => he i (by omega))
  have hek := he k (by omega)
  rw [dsN_succ]
  have hpk := hc.pr k (by omega)
  have hofb : ofI s (prOf s k).b = k := hc.conv k (by omega) _ (Nat.le_refl _) hpk.1
  have hb : (prOf s k).b < code.length := by omega
  have hnb := ih.new _ hb (by omega)
  have hbl : (prOf s k).b < (dsN code s ts k).length := by rw [ih.len]; exact hb
  have hW : walkN code s ts k = walkF code s ts code.length ⟨[((prOf s k).b : Int)], [], 0, true⟩ ((dsN code s ts k).set (prOf s k).b 0) 0 := rfl
  generalize dsN code s ts k = ds at *
  have g1 : ∀ j, j ≠ (prOf s k).b → (ds.set (prOf s k).b 0).getD j 0 = ds.getD j 0 := fun j hj => by rw [getD_set, if_neg (by omega)]
  have g2 : (ds.set (prOf s k).b 0).getD (prOf s k).b 0 = 0 := by rw [getD_set, if_pos ⟨rfl, hbl⟩]
  have hbl2 : (prOf s k).b < (ds.set (prOf s k).b 0).length := by rw [List.length_set]; exact hbl
  have hng := neg_lt hbl2 (by simp)
  rw [List.length_set, ih.len] at hng
  have hwe : WEnd code s ts k (ds.set (prOf s k).b 0) (walkN code s ts k) := by
   rw [hW]
   refine walk_sound hnx code.length _ _ 0 ⟨⟨by rw [List.length_set, ih.len], fun v hv => ?_, fun x hx => ?_, ?_⟩, fun x hx => ?_, fun j hj hjk h0 => ?_, fun j _ => rfl, by omega, by omega⟩ ?_ (by rw [← hW]; exact hek)
   ·rcases mem_set_or hv with h | h
    ·exact ih.low v h
    ·subst h; omega
   ·simp only [List.mem_singleton] at hx; subst hx; omega
   ·show 1 + neg (ds.set (prOf s k).b 0) ≤ _; omega
   ·simp only [List.mem_singleton] at hx; subst hx
    rw [Int.toNat_natCast]; exact ⟨hofb, by rw [g2]; omega⟩
   ·by_cases hjb : j = (prOf s k).b
    ·subst hjb; exact .inl (by simp)
    ·rw [g1 j hjb] at h0
     have := ih.new j hj (by omega)
     omega
   ·show 1 + neg (ds.set (prOf s k).b 0) ≤ _; omega
  have keep : ∀ j, 0 ≤ ds.getD j 0 → (walkN code s ts k).ds.getD j 0 = ds.getD j 0 := by
   intro j h0
   have hjb : j ≠ (prOf s k).b := by intro e; subst e; omega
   rw [hW, walk_keep code s ts _ _ _ _ j (by rw [g1 j hjb]; exact h0), g1 j hjb]
  refine ⟨hwe.len, hwe.low, fun j hj hjk => ?_, fun j hj hjk h0 => ?_, fun i hi => ?_, fun i hi => ?_⟩
  ·rw [hwe.oth j (by omega), g1 j (by intro e; subst e; omega)]
   exact ih.new j hj (by omega)
  ·by_cases hjk' : ofI s j = k
   ·rw [hjk']; exact hwe.dn j hj hjk' h0
   ·have hjb : j ≠ (prOf s k).b := by intro e; subst e; exact hjk' hofb
    have h1 : 0 ≤ ds.getD j 0 := by rw [hwe.oth j hjk', g1 j hjb] at h0; exact h0
    exact (ih.dn j hj (by omega) h1).mono (Int.le_refl _) keep
  ·by_cases hik : i = k
   ·subst hik; exact ⟨hwe.n0, hwe.n64⟩
   ·exact ih.need i (by omega)
  ·by_cases hik : i = k
   ·subst hik
    rw [hW, walk_keep code s ts _ _ _ _ _ (by rw [g2]; omega), g2]
   ·have := ih.begin i (by omega)
    rw [keep _ (by rw [this]; omega), this]
end Go.Proofs.YtfplmcpkagpaiaaGreatDoor.Fl
end
section
namespace Go.Proofs.YtfplmcpkagpaiaaGreatDoor.Fl
open Go Go.Sim
def tgts (code : List Instr) (jumps : List Nat) : List (List Nat) := tgtN (cutF code) jumps jumps.length
theorem next_lt {code : List Instr} {jumps : List Nat} (h : FindOk code jumps) : ∀ i, i < code.length → ∀ x ∈ nextF code (cutF code) (tgts code jumps) i, x < code.length ∧ ofI (cutF code) x = ofI (cutF code) i := fun i hi x hx => by
 have := next_in h hi x hx
 exact ⟨this.1, this.2.1⟩
theorem Depths_body {code : List Instr} {jumps : List Nat} (hf : CodeFits code jumps) (h : FindOk code jumps) (m : Nat) (hm : m ≤ (cutF code).1.length) (hok : ∀ k, k < m → (walkN code (cutF code) (tgts code jumps) k).e = 0) (hbad : m < (cutF code).1.length → (walkN code (cutF code) (tgts code jumps) m).e ≠ 0) :
  bodyV E (om E) 18 [lst eInstr code, lst eW jumps] [[]] = some (depR code jumps (cutF code) (tgts code jumps) m) := by
 have hc : CutOk code code.length (cutF code) := cut_ok h.first code.length
 have hF := GFound_ok hf h
 have hl := h.enc.1
 have hs0 : 0 < (cutF code).1.length := cutN_pos h.first h.pos
 have hs1 : (cutF code).1.length ≤ code.length := (cutN_len code code.length).2
 have hlt := next_lt h
 have hD := GDepths_body code jumps (cutF code) (tgts code jumps) h.pos hl hs0 (by omega) hc.len (cutN_of h.first code.length) (tgtN_len _ _ _) (fun l hl => Nat.le_trans (tgtN_le _ _ _ l hl) hf.len) (fun i hi x hx => (hlt i hi x hx).1)
  (fun p hp => by
   obtain ⟨k, hk, rfl⟩ := List.getElem_of_mem hp
   have := hc.pr k hk
   unfold prOf at this
   rw [getD_lt hk] at this
   omega) m hm hok hbad
  (fun k hk => by
   have := ds_inv hc hlt k (by omega) (fun i hi => hok i (by omega))
   exact ⟨this.len, this.low⟩)
 apply bo_18
 have hG : graphV code jumps (cutF code) (tgtN (cutF code) jumps jumps.length) = graphV code jumps (cutF code) (tgts code jumps) := rfl
 rw [hG] at hF
 have hGc : V.canon (graphV code jumps (cutF code) (tgts code jumps)) = graphV code jumps (cutF code) (tgts code jumps) := by simp [canon_lsts]
 have hGf : V.flat (graphV code jumps (cutF code) (tgts code jumps)) = true := by simp
 unfold depR at hD ⊢
 generalize graphV code jumps (cutF code) (tgts code jumps) = G at *
 by_cases hmp : m < (cutF code).1.length
 ·rw [if_pos hmp] at hD ⊢
  simp (disch := omega) [if_pos, if_neg, iteK_pos, iteK_neg, Tryz.f18, hF, hD, hGc, hGf, call_52]
 ·rw [if_neg hmp] at hD ⊢
  simp (disch := omega) [if_pos, if_neg, iteK_pos, iteK_neg, Tryz.f18, hF, hD, hGc, hGf, call_52]
def AllOk (code : List Instr) (jumps : List Nat) : Prop := ∀ i, i < (cutF code).1.length → (walkN code (cutF code) (tgts code jumps) i).e = 0
noncomputable def dsF (code : List Instr) (jumps : List Nat) : List Int := dsN code (cutF code) (tgts code jumps) (cutF code).1.length
noncomputable def needF (code : List Instr) (jumps : List Nat) : List Int := needN code (cutF code) (tgts code jumps) (cutF code).1.length
theorem Depths_at {code : List Instr} {jumps : List Nat} (hf : CodeFits code jumps) (h : FindOk code jumps) (ha : AllOk code jumps) {a1 a2 : V} {B : List Blk} {r : Heap} (hv : viewArgs (B :: r) [a1, a2] = some [lst eInstr code, lst eW jumps]) :
  callV E (om E) 18 [a1, a2] (B :: r) = some (.tuple [.sref 0 (B.length + 6) 0 code.length 0 (1, true), .sref 0 (B.length + 9) 0 (cutF code).1.length (cutF code).1.length (1, false), ii 0, ii 0],
   (B ++ depO (graphV code jumps (cutF code) (tgts code jumps)) code.length (dsF code jumps) (needF code jumps) B.length) :: r) := by
 have hb := Depths_body hf h (cutF code).1.length (Nat.le_refl _) ha (by omega)
 unfold depR at hb
 rw [if_neg (by omega)] at hb
 rw [call_18, hv]
 have hd : dsF code jumps = dsN code (cutF code) (tgts code jumps) (cutF code).1.length := rfl
 have hn : needF code jumps = needN code (cutF code) (tgts code jumps) (cutF code).1.length := rfl
 rw [hd, hn]
 simp (disch := omega) [if_pos, if_neg, iteK_pos, iteK_neg, hb]
end Go.Proofs.YtfplmcpkagpaiaaGreatDoor.Fl
end
section
namespace Go.Proofs.YtfplmcpkagpaiaaGreatDoor.Fl
open Go Go.Sim
theorem ProcsOf_no (s : List PR × List Nat) (ts : List (List Nat)) (i : Nat) (hi : s.2.length ≤ i) (hi' : i < 4294967296) : pureV E (om E) 78 false [procsV s ts, .int .u32 i] = some (ii (-1)) := by
 apply pu_78
 simp (disch := omega) [if_pos, if_neg, iteK_pos, iteK_neg, Tryz.f78, hi, procsV, eq_pcon]
theorem ProcsProc_no (s : List PR × List Nat) (ts : List (List Nat)) : pureV E (om E) 77 false [procsV s ts, ii (-1)] = some (.tuple [prV ⟨0, 0, 0⟩, bb false]) := by
 apply pu_77
 simp (disch := omega) [if_pos, if_neg, iteK_pos, iteK_neg, Tryz.f77, procsV, eq_pcon]
def beginsF (s : List PR × List Nat) (x : Nat) : Bool := decide (x < s.2.length ∧ (s.1.getD (s.2.getD x 0) default).b = x)
theorem ProcsBegins (lent) (s : List PR × List Nat) (ts : List (List Nat)) (x : Nat) (hx : x < 4294967296) (ho : ∀ p ∈ s.2, p < s.1.length) : pureV E (om E) 50 lent [procsV s ts, .int .u32 x] = some (bb (beginsF s x)) := by
 apply pu_50
 have hc : V.canon (procsV s ts) = procsV s ts := by simp [canon_lsts]
 have hf : V.flat (procsV s ts) = true := by simp
 by_cases h : x < s.2.length
 ·have hO := ProcsOf s ts x h hx
  have hp := ho _ (List.getElem_mem h)
  have hP := ProcsProc s ts _ hp
  have hb : beginsF s x = decide (s.1[s.2[x]].b = x) := by unfold beginsF; rw [getD_lt h, getD_lt hp]; simp [h]
  rw [hb]
  generalize procsV s ts = PV at *
  by_cases hx2 : s.1[s.2[x]].b = x
  ·simp (disch := omega) [if_pos, if_neg, iteK_pos, iteK_neg, Tryz.f50, hO, hP, hc, hf, hx2]
  ·simp (disch := omega) [if_pos, if_neg, iteK_pos, iteK_neg, Tryz.f50, hO, hP, hc, hf, hx2]
   omega
 ·have hO := ProcsOf_no s ts x (by omega) hx
  have hP := ProcsProc_no s ts
  have hb : beginsF s x = false := by unfold beginsF; simp [h]
  rw [hb]
  generalize procsV s ts = PV at *
  simp (disch := omega) [if_pos, if_neg, iteK_pos, iteK_neg, Tryz.f50, hO, hP, hc, hf]
theorem view_tcellsX (n : Nat) (a0 a1 a2 a3 : Blk) (X : List Blk) (ts : List (List Nat)) (r : Heap) : optMap (V.view (n + 1) ((a0 :: a1 :: a2 :: a3 :: (tRows ts ++ X)) :: r)) (tCells ts) = some (ts.map (lst eW)) := by
 refine optMap_of (by simp) (fun i h h' => ?_)
 have hi : i < ts.length := by simpa using h
 have e1 : (tCells ts)[i] = .sref 0 (i + 4) 0 ts[i].length ts[i].length (1, false) := by simp [tCells]
 rw [e1]
 simp [tRowsA_get hi]
theorem tRowsA_put (ts : List (List Nat)) (x y : Blk) : (tRows ts ++ [x]).set ts.length y = tRows ts ++ [y] := by
 rw [List.set_append_right _ _ (by simp)]; simp
def findRN (lent : Bool) (code : List Instr) (jumps : List Nat) (k m q nl : Nat) : V :=
 if k < code.length then .tuple [.nilptr, ii k, ii (faultAt (cutF code) code k)]
 else if m < jumps.length then .tuple [.nilptr, ii m, ii 134]
 else if q < nl then .tuple [.nilptr, ii q, ii 135]
 else .tuple [procsV (cutF code) (tgtN (cutF code) jumps jumps.length), ii 0, ii 0]
theorem FindN_walk (lent) (names : List Export) (hnl : names.length < 4611686018427387904) (code : List Instr) (jumps : List Nat) (hf : ∀ i ∈ code, insFits i) (hj : jumps.length ≤ 35184372087808) (hjf : ∀ t ∈ jumps, t < 4294967296) (he : encodes code) (hc : 0 < code.length) (h0 : (code.getD 0 default).op = 3)
  (k m q : Nat) (hk : k ≤ code.length) (hb : ∀ i, i < k → faultAt (cutF code) code i = 0) (hbk : k < code.length → faultAt (cutF code) code k ≠ 0)
  (hm : m ≤ jumps.length) (hmb : ∀ i, i < m → ¬ badJ (cutF code) jumps i) (hmk : m < jumps.length → badJ (cutF code) jumps m)
  (hq : q ≤ names.length) (hqb : ∀ i, (h : i < q) → beginsF (cutF code) (names[i]'(by omega)).place.toNat = true) (hqk : (h : q < names.length) → beginsF (cutF code) names[q].place.toNat = false) : pureV E (om E) 17 lent [lst eInstr code, lst eW jumps, lst eExport names] = some (findRN lent code jumps k m q names.length) := by
 apply pu_17
 have hE : ∀ lent, _ := fun lent => Encode_ok lent code he.1 hf he.2
 have hne : code ≠ [] := by rintro rfl; simp at hc
 have hop : code[0].op = 3 := by simpa [List.getD, hc] using h0
 have s2 : (cutF code).2.length = code.length := (cutN_len code code.length).1
 have s1 : (cutF code).1.length ≤ code.length := (cutN_len code code.length).2
 have s0 : 0 < (cutF code).1.length := cutN_pos h0 hc
 have so : ∀ p ∈ (cutF code).2, p < (cutF code).1.length := cutN_of h0 code.length
 have hl := he.1
 have hcut := Cut_at code he.1 h0
 unfold findRN
 generalize cutF code = s at *
 have haim := Aim s jumps m hm s0 (by omega) (by omega) so hj hjf hmb hmk
 simp (disch := omega) [if_pos, if_neg, iteK_pos, iteK_neg, Tryz.f17, hE, hc, hne, hop, hcut]
 refine loop_use (dyn := [10]) (fun (a : Nat) => findSlots code jumps (lst eExport names) (bs (encI code)) a)
  (fun a => [cutOut s]) (fun a => a ≤ k) (fun a => k - a) hint_17_0 (by kernel_rfl) ?_ 0 (by simp) (by simp [findSlots])
 rintro i hi IH
 rw [lpB_eq]
 by_cases hik : i < k
 ·have hlt : i < code.length := by omega
  have hbi := hb i hik
  have h2 : i < s.2.length := by omega
  have h1 : s.2[i] < s.1.length := so _ (List.getElem_mem h2)
  unfold faultAt at hbi
  rw [getD_lt hlt, getD_lt h2, getD_lt h1] at hbi
  simp (disch := omega) [if_pos, if_neg, iteK_pos, iteK_neg, hlt, h2, h1, PFault, hbi, eN_get, ePR_get0, ePR_get1, ePR_get2, ePR_get3]
  rw [iteK_pos (by kernel_rfl)]
  simp (disch := omega) [if_pos, if_neg, iteK_pos, iteK_neg, hlt, h2, h1, PFault, hbi, eN_get, ePR_get0, ePR_get1, ePR_get2, ePR_get3]
  exact IH (i + 1) _ _ (by omega) (by omega) (by simp [findSlots])
 ·obtain rfl : i = k := by omega
  by_cases hlt : i < code.length
  ·have hbi := hbk hlt
   have h2 : i < s.2.length := by omega
   have h1 : s.2[i] < s.1.length := so _ (List.getElem_mem h2)
   unfold faultAt at hbi ⊢
   rw [getD_lt hlt, getD_lt h2, getD_lt h1] at hbi ⊢
   simp (disch := omega) [if_pos, if_neg, iteK_pos, iteK_neg, hlt, h2, h1, PFault, hbi, eN_get, ePR_get0, ePR_get1, ePR_get2, ePR_get3]
   rw [iteK_pos (by kernel_rfl)]
   simp (disch := omega) [if_pos, if_neg, iteK_pos, iteK_neg, hlt, h2, h1, PFault, hbi, eN_get, ePR_get0, ePR_get1, ePR_get2, ePR_get3]
  ·obtain rfl : i = code.length := by omega
   by_cases hmj : m < jumps.length
   ·simp (disch := omega) [if_pos, if_neg, iteK_pos, iteK_neg, hmj, call_49, haim]
   ·obtain rfl : m = jumps.length := by omega
    simp (disch := omega) [if_pos, if_neg, iteK_pos, iteK_neg, call_49, haim]
    have htl := tgtN_len s jumps jumps.length
    generalize tgtN s jumps jumps.length = ts at *
    have hcc : cutCells (List.map (lst eW) ts) 0 s.1.length 1 = List.map (lst eW) ts := cutCells_all _ _ _ (by simp [htl])
    have hcc' : cutCells (List.map (lst eW) ts) 0 ts.length 1 = List.map (lst eW) ts := cutCells_all _ _ _ (by simp)
    have e1 : ∀ x : Blk, (tRows ts ++ [x])[s.1.length]? = some x := fun x => by rw [← htl]; exact tRowsA_end
    have e2 : ∀ x y : Blk, (tRows ts ++ [x]).set s.1.length y = tRows ts ++ [y] := fun x y => by rw [← htl]; exact tRowsA_put ts x y
    have e3 : ∀ H, V.settleL (s.1.length + 1 + 1 + 1 + 1) H (tCells ts) = tCells ts := fun H => by rw [← htl]; exact settleL_ids _ H _ tCells_low
    have e4 : ∀ H, (tRows ts).map (settleBlk (s.1.length + 1 + 1 + 1 + 1) H) = tRows ts := fun H => settle_trows ts _ H
    have e5 : ∀ x : Blk, List.take s.1.length (tRows ts ++ [x]) = tRows ts := fun x => by rw [← htl]; simp
    have hB := fun lent x hx => ProcsBegins lent s ts x hx so
    refine loop_chg (dyn := [10]) (fun j : Nat => [(83, ii j)]) (fun _ => []) (fun _ => []) (fun j => j ≤ q) (fun j => q - j) hint_17_1 (by kernel_rfl) ?_ 0 (by simp) (by simp)
    intro j hjq IH2
    rw [lpB_eq]
    clear IH
    by_cases hj1 : j < q
    ·have hjl : j < names.length := by omega
     have hbg := hqb j hj1
     have hplt := names[j].place.toNat_lt
     have hBj := fun lent => hB lent _ hplt
     rw [hbg] at hBj
     have hBj' : ∀ lent, pureV E (om E) 50 lent [.pcon [lst ePR s.1, lst eN s.2, .scon (ts.map (lst eW)) 0 s.1.length false] 0, .int .u32 names[j].place.toNat] = some (bb true) := fun lent => by rw [← htl]; exact hBj lent
     simp (disch := omega) [if_pos, if_neg, iteK_pos, iteK_neg, hjl, e1, e2, e3, e4, e5, view_tcellsX, canon_lsts, hcc, htl, hBj']
     exact IH2 (j + 1) _ _ (by omega) (by omega) (by simp)
    ·obtain rfl : j = q := by omega
     by_cases hjl : j < names.length
     ·have hbg := hqk hjl
      have hplt := names[j].place.toNat_lt
      have hBj := fun lent => hB lent _ hplt
      rw [hbg] at hBj
      have hBj' : ∀ lent, pureV E (om E) 50 lent [.pcon [lst ePR s.1, lst eN s.2, .scon (ts.map (lst eW)) 0 s.1.length false] 0, .int .u32 names[j].place.toNat] = some (bb false) := fun lent => by rw [← htl]; exact hBj lent
      simp (disch := omega) [if_pos, if_neg, iteK_pos, iteK_neg, hjl, e1, e2, e3, e4, e5, view_tcellsX, canon_lsts, hcc, htl, hBj']
     ·cases lent
      ·simp (disch := omega) [if_pos, if_neg, iteK_pos, iteK_neg, hjl, canon_lsts]
       rw [view_tcells 47 s _ []]
       simp (disch := omega) [if_pos, if_neg, iteK_pos, iteK_neg, hcc, htl, canon_lsts, procsV]
      ·simp (disch := omega) [if_pos, if_neg, iteK_pos, iteK_neg, hjl, canon_lsts, stripL_tCells, tRows_strip]
       rw [view_tcells 47 s _ []]
       simp (disch := omega) [if_pos, if_neg, iteK_pos, iteK_neg, hcc, htl, canon_lsts, procsV]
def NamesAt (code : List Instr) (names : List Export) : Prop := ∀ i, (h : i < names.length) → beginsF (cutF code) names[i].place.toNat = true
theorem FindN_ok (lent) {names : List Export} (hnl : names.length < 4611686018427387904) {code : List Instr} {jumps : List Nat} (hf : CodeFits code jumps) (h : FindOk code jumps) (hn : NamesAt code names) :
  pureV E (om E) 17 lent [lst eInstr code, lst eW jumps, lst eExport names] = some (.tuple [procsV (cutF code) (tgtN (cutF code) jumps jumps.length), ii 0, ii 0]) := by
 have := FindN_walk lent names hnl code jumps hf.ins hf.len hf.words h.enc h.pos h.first code.length jumps.length names.length (Nat.le_refl _) h.faults (by omega) (Nat.le_refl _) h.jumps (by omega) (Nat.le_refl _) hn (fun h => absurd h (by omega))
 rw [this]
 simp [findRN]
theorem FindN_early {code : List Instr} {jumps : List Nat} (hf : CodeFits code jumps) (h : ¬ (encodes code ∧ 0 < code.length ∧ (code.getD 0 default).op = 3)) : ∃ at_ e : Nat, e ≠ 0 ∧ e < 140 ∧ ∀ (lent : Bool) (nm : List Export), pureV E (om E) 17 lent [lst eInstr code, lst eW jumps, lst eExport nm] = some (.tuple [.nilptr, ii at_, ii e]) := by
 obtain ⟨out, at_, e, hE, hE1, hE2, hE3⟩ := Encode code hf.ins
 by_cases he : e = 0
 ·subst he
  obtain rfl := hE3 rfl
  have henc := hE1.mp rfl
  refine ⟨0, 130, by omega, by omega, fun lent nm => ?_⟩
  apply pu_17
  by_cases hc : 0 < code.length
  ·have hne : code ≠ [] := by rintro rfl; simp at hc
   have hop : ¬ code[0].op = 3 := by
    intro hop
    exact h ⟨henc, hc, by simpa [List.getD, hc] using hop⟩
   simp (disch := omega) [if_pos, if_neg, iteK_pos, iteK_neg, Tryz.f17, hE, hc, hne, hop]
  ·obtain rfl : code = [] := by cases code with | nil => rfl | cons x l => simp at hc
   rw [lst_nil] at hE
   simp (disch := omega) [if_pos, if_neg, iteK_pos, iteK_neg, Tryz.f17, hE]
 ·refine ⟨at_, e, he, hE2, fun lent nm => ?_⟩
  apply pu_17
  simp (disch := omega) [if_pos, if_neg, iteK_pos, iteK_neg, Tryz.f17, hE, he]
theorem FindN_bad {names : List Export} (hnl : names.length < 4611686018427387904) {code : List Instr} {jumps : List Nat} (hf : CodeFits code jumps) (h : ¬ (FindOk code jumps ∧ NamesAt code names)) : ∃ at_ e : Nat, e ≠ 0 ∧ e < 140 ∧ ∀ (lent : Bool), pureV E (om E) 17 lent [lst eInstr code, lst eW jumps, lst eExport names] = some (.tuple [.nilptr, ii at_, ii e]) := by
 by_cases h1 : encodes code ∧ 0 < code.length ∧ (code.getD 0 default).op = 3
 ·obtain ⟨k, k1, k2, k3⟩ := first_bad (fun i => faultAt (cutF code) code i ≠ 0) code.length
  obtain ⟨m, m1, m2, m3⟩ := first_bad (fun i => badJ (cutF code) jumps i) jumps.length
  obtain ⟨q, q1, q2, q3⟩ := first_bad (fun i => ∃ h : i < names.length, beginsF (cutF code) names[i].place.toNat = false) names.length
  have hw : ∀ (lent : Bool), _ := fun lent => FindN_walk lent names hnl code jumps hf.ins hf.len hf.words h1.1 h1.2.1 h1.2.2 k m q k1 (fun i hi => Classical.byContradiction (k2 i hi)) k3 m1 m2 m3 q1
   (fun i hi => by
    have := q2 i hi
    cases hb : beginsF (cutF code) (names[i]'(by omega)).place.toNat with
    | true => rfl
    | false => exact absurd ⟨by omega, hb⟩ this) (fun h => (q3 h).2)
  by_cases hk : k < code.length
  ·refine ⟨k, faultAt (cutF code) code k, k3 hk, faultF_lt _ _ _, fun lent => ?_⟩
   rw [hw lent]; simp [findRN, hk]
  ·by_cases hm : m < jumps.length
   ·refine ⟨m, 134, by omega, by omega, fun lent => ?_⟩
    rw [hw lent]; simp [findRN, hk, hm]
   ·by_cases hq : q < names.length
    ·refine ⟨q, 135, by omega, by omega, fun lent => ?_⟩
     rw [hw lent]; simp [findRN, hk, hm, hq]
    ·refine absurd ⟨⟨h1.1, h1.2.1, h1.2.2, fun i hi => Classical.byContradiction (k2 i (by omega)), fun i hi => m2 i (by omega)⟩, fun i hi => ?_⟩ h
     have := q2 i (by omega)
     cases hb : beginsF (cutF code) names[i].place.toNat with
     | true => rfl
     | false => exact absurd ⟨hi, hb⟩ this
 ·obtain ⟨a, e, e0, e1, hB⟩ := FindN_early hf h1
  exact ⟨a, e, e0, e1, fun lent => hB lent names⟩
end Go.Proofs.YtfplmcpkagpaiaaGreatDoor.Fl
end
section
namespace Go.Proofs.YtfplmcpkagpaiaaGreatDoor.Fl
open Go Go.Sim
structure Chain (s : PRs) : Prop where
 zero : 0 < s.1.length → (prOf s 0).b = 0
 next : ∀ k, k + 1 < s.1.length → (prOf s (k + 1)).b = (prOf s k).e
end Go.Proofs.YtfplmcpkagpaiaaGreatDoor.Fl
end
