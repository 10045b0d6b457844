/-
  flow's walk through a procedure.
-/
import Derived.Test.YtpfodignhibjgaaNi
import Derived.Test.YtpfodignhibjgaaMe
section
namespace Go.Proofs.Ytpfodignhibjgaa
open Go Go.Sim
set_option maxRecDepth 100000
set_option maxHeartbeats 0
set_option linter.unusedSimpArgs false
set_option linter.unusedVariables false

abbrev dpB (b0 b1 b2 b3 b4 b5 : Blk) (ds : List Int) (T : List Blk) : List Blk := b0 :: b1 :: b2 :: b3 :: b4 :: b5 :: .row (cat eI ds) 0 1 true true :: T
abbrev walkSlots (G : V) (begin n : Nat) (need at_ : Int) : List V := [G, ii begin, V.sref 1 6 0 n 0 (1, true), xx, xx, xx, ii 0,
        ii 0, ii 0, V.pref 0 1 0 0, ii need, ii at_, ii 0, xx, xx, xx, xx, xx, ii begin, V.sref 0 0 0 1 0 (1, true), V.pref 0 1 0 0,
        V.sref 1 6 0 n 0 (1, true), ii begin, V.pref 1 6 begin 0] ++ pois 85
/-- The state at the walk's head. -/
structure WS where
  m : HM
  ds : List Int
  need : Int
  at_ : Int
  f : Nat
theorem Walk_body (code jumps s ts) (hl : code.length ≤ 16384) (h2 : s.2.length = code.length) (ho : ∀ p ∈ s.2, p < s.1.length) (ht : ts.length = s.1.length) (hj : ∀ l ∈ ts, l.length ≤ 35184372087808)
    (hnx : ∀ i, i < code.length → ∀ x ∈ nextF code s ts i, x < code.length) (begin : Nat) (hb : begin < code.length) (ds : List Int) (hds : ds.length = code.length) (hlow : ∀ v ∈ ds, -1 ≤ v ∧ v ≤ 64) (b0 b1 b2 b3 b4 b5 T r) (W : WR)
    (hW : walkF code s ts code.length ⟨[(begin : Int)], [], 0, true⟩ (ds.set begin 0) 0 = W) :
    bodyV E (om E) 35 [graphV code jumps s ts, ii begin, .sref 1 6 0 code.length 0 (1, true)] ([] :: dpB b0 b1 b2 b3 b4 b5 ds T :: r) = some (.tuple [ii W.need, ii W.at_, ii W.e], W.m.blk W.x :: dpB b0 b1 b2 b3 b4 b5 W.ds T :: r) := by
  have hN := fun i hi => GNext code jumps s ts i hi hl h2 ho ht hj
  have hI := GInfo code jumps s ts
  generalize hG : graphV code jumps s ts = G at *
  have hGf : V.flat G = true := by rw [← hG]; simp
  have hGc : V.canon G = G := by rw [← hG]; simp [canon_lsts]
  have hGs : ∀ n H, V.settle n H G = G := fun n H => settle_flat n H G hGf
  have hGu : ∀ n, V.up n G = G := fun n => up_flat n G hGf
  apply bo_35
  have e0 : ((cat eI ds).set begin (ii 0)) = cat eI (ds.set begin 0) := cat_eI_set ds begin 0
  simp (disch := omega) [if_pos, if_neg, iteK_pos, iteK_neg, Try.f35, hb, hds]
  refine loop_use (dyn := [6]) (fun (a : WS) => walkSlots G begin code.length a.need a.at_) (fun a => a.m.blk [] :: dpB b0 b1 b2 b3 b4 b5 a.ds T :: r)
    (fun a => WOk code.length a.m.w a.ds ∧ 0 ≤ a.need ∧ a.need ≤ 64 ∧ a.m.w.length + neg a.ds ≤ a.f ∧ walkF code s ts a.f a.m a.ds a.need = W) (fun a => a.f) hint_35_0 (by kernel_rfl) ?_ ⟨⟨[(begin : Int)], [], 0, true⟩, ds.set begin 0, 0, 0, code.length⟩ ?_ ?_
  rotate_left
  · have hbl : begin < (ds.set begin 0).length := by rw [List.length_set, hds]; exact hb
    have hng := neg_lt hbl (by simp)
    rw [List.length_set, hds] at hng
    refine ⟨⟨by rw [List.length_set, hds], fun v hv => ?_, fun x hx => ?_, ?_⟩, by simp, by simp, ?_, hW⟩
    · rcases mem_set_or hv with h | h
      · exact hlow v h
      · subst h; simp
    · simp at hx; subst hx; omega
    · show 1 + neg (ds.set begin 0) ≤ code.length; omega
    · show 1 + neg (ds.set begin 0) ≤ code.length; omega
  · simp [walkSlots, HM.blk, hpB, dpB, e0, cat_cons]
  rintro ⟨m, ds, need, at_, f⟩ ⟨hok, hn0, hn64, hf, hR⟩ IH
  rw [lpB_eq]
  dsimp only at hok hn0 hn64 hf hR ⊢
  have hwl : m.w.length ≤ code.length := by have := hok.few; omega
  by_cases c0 : m.w.length = 0
  · have hR' : W = ⟨need, 0, 0, ds, m, []⟩ := by
      rw [← hR]; cases f with
      | zero => rfl
      | succ f => rw [walkF, if_pos c0]
    subst hR'
    have hw : m.w = [] := List.length_eq_zero_iff.mp c0
    have hL0 : ∀ lent, pureV E (om E) 48 lent [.scon [] 0 0 false] = some (ii 0) := fun lent => HLen lent []
    have hc0 : cutCells (cat eI m.junk) 0 0 1 = [] := by simp [cutCells]
    simp (disch := omega) [if_pos, if_neg, iteK_pos, iteK_neg, hw, hL0, hc0, upIf_f1, hGs]
  · obtain ⟨p0, p1, hok'⟩ := popOk hok (by omega)
    have hP := fun rr => HPop m.w m.junk m.ep m.q [] rr (by omega) (by omega)
    obtain ⟨f, rfl⟩ : ∃ f', f = f' + 1 := Nat.exists_eq_succ_of_ne_zero (by omega)
    have hpl := popF_len (l := m.w) (by omega)
    rw [walkF, if_neg c0] at hR
    obtain ⟨i, hi⟩ := Int.eq_ofNat_of_zero_le p0
    rw [hi] at p1 hP hR
    have hin : i < code.length := by omega
    have hid : i < ds.length := by rw [hok.len]; exact hin
    rw [Int.toNat_natCast, getD_lt hin, getD_lt hid] at hR
    have hlo := hok.low _ (List.getElem_mem hid)
    obtain ⟨k1, k2⟩ := takes_le code[i].op
    have hIi := hI i hin
    have hNi := hN i hin
    have hxi := hnx i hin
    have hnl := nextF_len code s ts hj i
    have hm' : hpB (popF m.w).2 ((i : Int) :: m.junk) m.ep false [] = m.pop.blk [] := by simp only [HM.blk, HM.pop, hi]
    have hib : ∀ tk gv kd : Nat, takesF code[i].op = tk → givesF code[i].op = gv → kindF code[i].op = kd → infoBlk code[i].op = .row [.str (rowOf code[i].op).word, ii (rowOf code[i].op).width, .int .u32 (rowOf code[i].op).most, ii tk, ii gv, .int .u8 kd] 0 6 true true := by
      rintro _ _ _ rfl rfl rfl; rfl
    generalize htk : takesF code[i].op = tk at *
    generalize hgv : givesF code[i].op = gv at *
    generalize hkd : kindF code[i].op = kd at *
    generalize hdi : ds[i] = d at *
    have hib := hib tk gv kd rfl rfl rfl
    have hd2 : (0 : Int) ≤ d - tk + gv ∨ d < tk := by omega
    simp (disch := omega) [if_pos, if_neg, iteK_pos, iteK_neg, c0, HLen, cut_pre, upIf_f1, hGs, hGf, hGu, hGc, hP, hIi, takes_eq, gives_eq, kind_eq, htk, hgv, hkd, eI_get, hid, hdi]
    rw [iteK_pos (by kernel_rfl)]
    by_cases c1 : d < tk
    · rw [if_pos c1] at hR
      subst hR
      simp (disch := omega) [if_pos, if_neg, iteK_pos, iteK_neg, takes_eq, gives_eq, kind_eq, htk, hgv, hkd, c1, hGs, HM.blk, HM.pop, hi, hib]
    · rw [if_neg c1] at hR
      by_cases c2 : 64 < d - tk + gv
      · rw [if_pos c2] at hR
        subst hR
        simp (disch := omega) [if_pos, if_neg, iteK_pos, iteK_neg, takes_eq, gives_eq, kind_eq, htk, hgv, hkd, c1, c2, hGs, HM.blk, HM.pop, hi, hib]
      · rw [if_neg c2] at hR
        have hd0 : 0 ≤ d - tk + gv := by omega
        by_cases c3 : kd = 7 ∧ d ≠ 1
        · rw [if_pos c3] at hR
          obtain ⟨rfl, c4⟩ := c3
          subst hR
          simp (disch := omega) [if_pos, if_neg, iteK_pos, iteK_neg, takes_eq, gives_eq, kind_eq, htk, hgv, hkd, c1, c2, c4, hGs, HM.blk, HM.pop, hi, hib]
        · rw [if_neg c3] at hR
          have hmx : (if (if need < d then d else need) < d - tk + gv then d - tk + gv else if need < d then d else need) = max (max need d) (d - tk + gv) := by
            simp only [Int.max_def]
            split <;> split <;> split <;> omega
          by_cases c5 : kd = 7
          · subst c5
            have c4 : d = 1 := Classical.byContradiction fun h => c3 ⟨rfl, h⟩
            have hx0 : nextF code s ts i = [] := by unfold nextF; rw [getD_lt hin]; simp [hkd]
            rw [hx0] at hR hNi
            rw [nextL, if_pos rfl] at hR
            dsimp only at hR
            rw [lst_nil] at hNi
            subst c4
            simp (disch := omega) [if_pos, if_neg, iteK_pos, iteK_neg, takes_eq, gives_eq, kind_eq, htk, hgv, hkd, c1, c2, hGs, hGf, hGu, hGc, hNi, hmx]
            apply loop_next (dyn := []) hint_35_1 (by kernel_rfl)
            simp (disch := omega) [if_pos, if_neg, iteK_pos, iteK_neg]
            rw [lpB_eq]
            simp (disch := omega) [if_pos, if_neg, iteK_pos, iteK_neg, hGs]
            refine IH ⟨m.pop, ds, max (max need 1) (1 - tk + gv), i, f⟩ _ _ ⟨hok', by dsimp only; omega, by dsimp only; omega, ?_, hR⟩ (by dsimp only; omega) ?_
            · show (popF m.w).2.length + neg ds ≤ f; omega
            · simp [walkSlots, HM.blk, HM.pop, hi]
          · simp (disch := omega) [if_pos, if_neg, iteK_pos, iteK_neg, takes_eq, gives_eq, kind_eq, htk, hgv, hkd, c1, c2, c5, hGs, hGf, hGu, hGc, hNi, hmx]
            refine loop_chg (dyn := []) (fun a : Nat × HM × List Int => [(71, ii a.1)]) (fun a => [(0, 0, .row (cat eI (a.2.1.w ++ a.2.1.junk)) a.2.1.ep 1 true true), (0, 1, .row [.sref 0 0 0 a.2.1.w.length a.2.1.ep (1, a.2.1.q)] 0 1 false false), (1, 6, .row (cat eI a.2.2) 0 1 true true)]) (fun _ => [])
              (fun a => a.1 ≤ (nextF code s ts i).length ∧ WOk code.length a.2.1.w a.2.2 ∧ a.2.1.q = false ∧ nextL (d - tk + gv) ((nextF code s ts i).drop a.1) a.2.1 a.2.2 = nextL (d - tk + gv) (nextF code s ts i) m.pop ds)
              (fun a => (nextF code s ts i).length - a.1) hint_35_1 (by kernel_rfl) ?_ (0, m.pop, ds) ⟨by simp, hok', rfl, rfl⟩ (by simp [HM.pop, hi])
            rintro ⟨k, mk, dk⟩ ⟨q1, q2, q3, q4⟩ IH2
            rw [lpB_eq]
            dsimp only at q1 q2 q3 q4 ⊢
            by_cases g1 : k < (nextF code s ts i).length
            · have hxk := hxi _ (List.getElem_mem g1)
              rw [List.drop_eq_getElem_cons g1, nextL] at q4
              generalize hx : (nextF code s ts i)[k] = x at *
              have hxd : x < dk.length := by rw [q2.len]; exact hxk
              have hdl := q2.len
              rw [getD_lt hxd] at q4
              by_cases g2 : dk[x] < 0
              · rw [if_pos g2] at q4
                have hwk : mk.w.length < 1099511627776 := by have := q2.few; omega
                have P2 := fun T rr => HPush mk.w mk.junk x mk.ep T rr hwk
                have hnew := nextOk_push q2 hxk hd0 (show d - tk + gv ≤ 64 by omega) (show dk.getD x 0 < 0 by rw [getD_lt hxd]; exact g2)
                simp (disch := omega) [if_pos, if_neg, iteK_pos, iteK_neg, g1, g2, hx, eI_get, hxd, hGs, hGf, hGu, hGc, q3, P2]
                refine IH2 (k + 1, mk.push x, dk.set x (d - tk + gv)) _ _ ⟨by dsimp only; omega, hnew, rfl, q4⟩ (by dsimp only; omega) ?_
                simp [HM.push, cat_eI_set, hpB]
              · rw [if_neg g2] at q4
                by_cases g3 : dk[x] = d - tk + gv
                · rw [if_pos g3] at q4
                  simp (disch := omega) [if_pos, if_neg, iteK_pos, iteK_neg, g1, g2, g3, hx, eI_get, hxd, hGs, hGf, hGu, hGc]
                  refine IH2 (k + 1, mk, dk) _ _ ⟨by dsimp only; omega, q2, q3, q4⟩ (by dsimp only; omega) ?_
                  simp
                · rw [if_neg g3] at q4
                  rw [← q4] at hR
                  dsimp only at hR
                  rw [if_neg (by simp)] at hR
                  subst hR
                  simp (disch := omega) [if_pos, if_neg, iteK_pos, iteK_neg, g1, g2, g3, hx, eI_get, hxd, hGs, hGf, hGu, hGc, hib, HM.blk]
            · rw [List.drop_of_length_le (by omega), nextL] at q4
              rw [← q4, if_pos rfl] at hR
              dsimp only at hR
              have hms := nextL_meas (m := m.pop) hd0 (show d - tk + gv ≤ 64 by omega) hxi hok'
              rw [← q4] at hms
              dsimp only at hms
              simp (disch := omega) [if_pos, if_neg, iteK_pos, iteK_neg, g1, hGs, hGf, hGu, hGc]
              refine IH ⟨mk, dk, max (max need d) (d - tk + gv), i, f⟩ _ _ ⟨q2, by dsimp only; omega, by dsimp only; omega, ?_, hR⟩ (by dsimp only; omega) ?_
              · show mk.w.length + neg dk ≤ f
                rw [hms.2]
                show (popF m.w).2.length + neg ds ≤ f; omega
              · simp [walkSlots, HM.blk]
end Go.Proofs.Ytpfodignhibjgaa
end
