/-
  FuseMeans: what its small machines do, told of the law's own memory.
  FuseMeans: the law's walk.
-/
import Derived.Test.YtjmipgfaghjgmaaQe
import Derived.Test.YtjmipgfaghjgmaaQc
import Derived.Test.YtjmipgfaghjgmaaNo
section
namespace Go.Proofs.Ytjmipgfaghjgmaa
open Go Go.Sim
set_option maxRecDepth 100000
set_option linter.unusedSimpArgs false
set_option linter.unusedVariables false
section
variable (F0 F1 W A2 O2 G : Blk) (S T : PS)
theorem take_lit (hb : S.ops.length < 35184372088830) (i : Instr) : callV E (om E) 12 [.pref 0 3 0 0, insV i] [[F0, F1, W, .row (S.pm 4).cells 0 260 false false, opsB (S.ops ++ S.junk) S.ep, A2, O2, G]] =
    some (.tuple [], [[F0, F1, W, .row ((takeS S i).pm 4).cells 0 260 false false, opsB ((takeS S i).ops ++ (takeS S i).junk) (takeS S i).ep, A2, O2, G]]) :=
  take1 (S := S) (h := [[F0, F1, W, .row (S.pm 4).cells 0 260 false false, opsB (S.ops ++ S.junk) S.ep, A2, O2, G]]) (d := 0) (j := 3) (j2 := 4) ⟨⟨_, rfl⟩, ⟨_, rfl⟩, by omega⟩ hb i
theorem pop_lit (hb : S.ops.length < 35184372088830) : callV E (om E) 10 [.pref 0 3 0 0] [[F0, F1, W, .row (S.pm 4).cells 0 260 false false, opsB (S.ops ++ S.junk) S.ep, A2, O2, G]] =
    some (u32V S.pop.1, [[F0, F1, W, .row (S.pop.2.pm 4).cells 0 260 false false, opsB (S.pop.2.ops ++ S.pop.2.junk) S.pop.2.ep, A2, O2, G]]) :=
  memPop (S := S) (h := [[F0, F1, W, .row (S.pm 4).cells 0 260 false false, opsB (S.ops ++ S.junk) S.ep, A2, O2, G]]) (d := 0) (j := 3) (j2 := 4) ⟨⟨_, rfl⟩, ⟨_, rfl⟩, by omega⟩ (by omega)
theorem thing_lit (hb : S.ops.length < 35184372088830) (hbf : S.bad = false) (at_ k : Nat) (f : Shp) (hk : k = 2 ∨ k = 3 ∨ k = 4 ∨ k = 5 ∨ k = 6 ∨ k = 7 ∨ k = 9 ∨ k = 10 ∨ k = 11 ∨ k = 12 ∨ k = 13 ∨ k = 14 ∨ k = 15) :
    callV E (om E) 13 [.pref 0 5 0 0, fusedV at_ k f] [[F0, F1, W, A2, O2, .row (S.pm 6).cells 0 260 false false, opsB (S.ops ++ S.junk) S.ep, G]] =
    some (.tuple [], [[F0, F1, W, A2, O2, .row ((thingS S at_ k f).pm 6).cells 0 260 false false, opsB ((thingS S at_ k f).ops ++ (thingS S at_ k f).junk) (thingS S at_ k f).ep, G]]) :=
  thing1 (S := S) (h := [[F0, F1, W, A2, O2, .row (S.pm 6).cells 0 260 false false, opsB (S.ops ++ S.junk) S.ep, G]]) (d := 0) (j := 5) (j2 := 6) ⟨⟨_, rfl⟩, ⟨_, rfl⟩, by omega⟩ hb hbf at_ k f hk
theorem view_lit {X : Heap} {j2 : Nat} {S : PS} (hg2 : X.get 0 j2 = some (opsB (S.ops ++ S.junk) S.ep)) : optMap (V.view 49 X) (S.pm j2).cells = some ((S.pm j2).cw (lst eW S.ops)) := by
  have hd := optMap_bytes (n := 48) (h := X) S.data [u32V S.pc, bb S.bad] [u32V S.pc, bb S.bad] (by simp only [optMap, view_int, view_bool, Option.bind_some])
  unfold PM.cells PM.cw
  simp only [PS.pm, optMap, view_int, view_sref, hg2, opsB, Option.bind_some, if_true]
  have hcut : cutCells ((S.ops ++ S.junk).map u32V) 0 S.ops.length 1 = S.ops.map u32V := by simp [cutCells]
  rw [hd, hcut]
  simp only [Option.bind_some]
  rw [← cat_eW]
  rfl
theorem same_lit (ha : S.ops.length < 2 ^ 62) (hb : T.ops.length < 2 ^ 62) : callV E (om E) 14 [.pref 0 3 0 0, .pref 0 5 0 0] [[F0, F1, W, .row (S.pm 4).cells 0 260 false false, opsB (S.ops ++ S.junk) S.ep, .row (T.pm 6).cells 0 260 false false, opsB (T.ops ++ T.junk) T.ep, G]] =
    some (bb (sameF S T), [[F0, F1, W, .row (S.pm 4).cells 0 260 false false, opsB (S.ops ++ S.junk) S.ep, .row (T.pm 6).cells 0 260 false false, opsB (T.ops ++ T.junk) T.ep, G]]) := by
  have v1 := view_lit (X := [[F0, F1, W, .row (S.pm 4).cells 0 260 false false, opsB (S.ops ++ S.junk) S.ep, .row (T.pm 6).cells 0 260 false false, opsB (T.ops ++ T.junk) T.ep, G]]) (j2 := 4) (S := S) rfl
  have v2 := view_lit (X := [[F0, F1, W, .row (S.pm 4).cells 0 260 false false, opsB (S.ops ++ S.junk) S.ep, .row (T.pm 6).cells 0 260 false false, opsB (T.ops ++ T.junk) T.ep, G]]) (j2 := 6) (S := T) rfl
  have c1 := canon_cw (S.pm 4) S.ops
  have c2 := canon_cw (T.pm 6) T.ops
  have hs : ∀ lent, pureV E (om E) 14 lent [.pcon ((S.pm 4).cw (lst eW S.ops)) 0, .pcon ((T.pm 6).cw (lst eW T.ops)) 0] = some (bb (sameF S T)) := fun lent => same1 lent S T ha hb
  simp (disch := omega) [if_pos, if_neg, iteK_pos, iteK_neg, v1, v2, c1, c2, hs]
theorem sw_lit (X : Blk) (P : PS) (O : List Nat) (hP : P.ops = 7 :: 9 :: O) (hO : O.length < 2 ^ 61) : callV E (om E) 11 [.sref 0 (P.pm 4).j 0 (P.pm 4).ops.length (P.pm 4).ep (1, false), .sref 0 2 0 (2 + O.length) 1 (1, false)]
      [[F0, F1, .row (.int .u32 7 :: .int .u32 9 :: cat eW O) 1 1 true true, X, opsB (P.ops ++ P.junk) P.ep, A2, O2, G]] =
    some (bb true, [[F0, F1, .row (.int .u32 7 :: .int .u32 9 :: cat eW O) 1 1 true true, X, opsB (P.ops ++ P.junk) P.ep, A2, O2, G]]) := by
  show callV E (om E) 11 [.sref 0 4 0 P.ops.length P.ep (1, false), .sref 0 2 0 (2 + O.length) 1 (1, false)] _ = _
  have hSW := fun lent => SameWords lent (7 :: 9 :: O) (7 :: 9 :: O) (by simp; omega) (by simp; omega)
  have hc : cutCells ((P.ops ++ P.junk).map u32V) 0 P.ops.length 1 = cat eW (7 :: 9 :: O) := by
    rw [cat_eW, ← hP]; simp [cutCells]
  have hc2 : cutCells (.int .u32 7 :: .int .u32 9 :: cat eW O) 0 (2 + O.length) 1 = cat eW (7 :: 9 :: O) := by
    have : (.int .u32 7 :: .int .u32 9 :: cat eW O : List V) = cat eW (7 :: 9 :: O) := rfl
    rw [this]
    have := cut_eW (7 :: 9 :: O)
    rwa [show (7 :: 9 :: O).length = 2 + O.length by simp; omega] at this
  have hl : V.scon (cat eW (7 :: 9 :: O)) 0 (2 + O.length) false = lst eW (7 :: 9 :: O) := by
    have := fold_eW (7 :: 9 :: O)
    rwa [show (7 :: 9 :: O).length = 2 + O.length by simp; omega] at this
  have hPl : P.ops.length = 2 + O.length := by rw [hP]; simp; omega
  have hcan := cat_canon eW (7 :: 9 :: O)
  unfold opsB
  generalize (P.ops ++ P.junk).map u32V = Lw at *
  rw [hPl] at hc ⊢
  generalize hW : (7 :: 9 :: O) = Wd at *
  simp (disch := omega) [if_pos, if_neg, iteK_pos, iteK_neg, hc, hc2, hcan, hl, hSW]
end
end Go.Proofs.Ytjmipgfaghjgmaa
end
section
namespace Go.Proofs.Ytjmipgfaghjgmaa
open Go Go.Sim
set_option maxRecDepth 100000
set_option linter.unusedSimpArgs false
set_option linter.unusedVariables false
theorem out_bytes (k : Nat) : ∀ (D : List Nat) (r : List V), V.outL k (D.map u8V ++ r) = D.map u8V ++ V.outL k r
  | [], r => rfl
  | x :: D, r => by
    show V.outL k (u8V x :: (D.map u8V ++ r)) = _
    simp only [V.outL, out_bytes k D r]
    simp
theorem out_blk (S : PS) (k : Nat) : outBlk k (S.pm 1).blk = (S.pm (k + 1)).blk := by
  unfold PM.blk PM.cells PM.cw PS.pm outBlk
  simp only [V.outL, out_bytes]
  simp
theorem out_ops (l : List Nat) (k ep : Nat) : outBlk k (opsB l ep) = opsB l ep := by
  unfold opsB outBlk
  simp
theorem machine_at (ops raw : List Nat) (sp at_ j ep : Nat) (B : List Blk) (hne : ops ≠ []) (hb : ops.length * 4 ≤ 140737488355328) (hr : raw.length < 2 ^ 62) (ho : B[j]? = some (opsB ops ep)) :
    callV E (om E) 9 [.sref 0 j 0 ops.length ep (1, false), lst eB raw, .int .u32 sp, .int .u32 at_] [B] = some (.pref 0 B.length 0 0, [B ++ [((machF ops raw sp at_).pm (B.length + 1)).blk, opsB ops 0]]) := by
  have hbody := machine_body ops raw sp at_ j ep [B] hne hb hr (by simpa [Heap.get] using ho)
  rw [call_9]
  simp (disch := omega) [if_pos, if_neg, iteK_pos, iteK_neg, hbody, -outBlk, out_blk, out_ops]
theorem mem_other {S : PS} {h : Heap} {d j j2 j3 : Nat} (h1 : j ≠ j3) (h2 : j2 ≠ j3) : (S.mem h d j j2).get d j3 = h.get d j3 := by
  unfold PS.mem
  rw [get_set_ne (.inr h1), get_set_ne (.inr h2)]
def zeroB : List V := (List.replicate 256 0).map u8V
theorem zero_data : zeroV Try.prog 39 = some (.agg zeroB) := by kernel_rfl
theorem zeroB_len : zeroB.length = 256 := by simp [zeroB]
theorem zeroB_ok : okCells zeroB = true := ok_bytes _
theorem zeroB_flat : V.flatL zeroB = true := flat_bytes _
theorem zeroB_plain : V.plainL zeroB = true := plain_bytes _
theorem storeN_pre : ∀ (vs cs pre : List V), cs.length = vs.length → storeN (pre ++ cs) pre.length vs = pre ++ vs
  | [], cs, pre, h => by
    obtain rfl := List.eq_nil_of_length_eq_zero h
    rfl
  | v :: vs, c :: cs, pre, h => by
    rw [storeN_cons, List.set_append_right _ _ (Nat.le_refl _), Nat.sub_self]
    have := storeN_pre vs cs (pre ++ [v]) (by simpa using h)
    simpa using this
  | v :: vs, [], pre, h => by simp at h
theorem storeN_zero {D : List Nat} (h : D.length = 256) : storeN zeroB 0 (D.map u8V) = D.map u8V := storeN_pre (D.map u8V) zeroB [] (by rw [zeroB_len]; simp [h])
theorem load_six (x0 x1 x2 x3 x4 x5 : V) : loadN [x0, x1, x2, x3, x4, x5] 0 6 = some [x0, x1, x2, x3, x4, x5] := rfl
theorem load_cells (M : PM) : loadN M.cells 2 256 = some (M.data.map u8V) := load_data M _
theorem load_all {D : List Nat} (h : D.length = 256) : loadN (D.map u8V) 0 256 = some (D.map u8V) := by
  rw [loadN_take _ _ _ (by simp [h]), List.drop_zero, List.take_of_length_le (by simp [h])]
theorem neq_data (x y : Operand) {D : List Nat} (h : D.length = 256) : binO E .neq 39 x y (.agg (D.map u8V)) (.agg (D.map u8V)) = some (.bool false) := by
  have h1 := eql_data x y h h
  have e1 : binO E .eql 39 x y (.agg (D.map u8V)) (.agg (D.map u8V)) = (eqV E 200 39 (.agg (D.map u8V)) (.agg (D.map u8V))).map .bool := by simp [binO, binV]
  have e2 : binO E .neq 39 x y (.agg (D.map u8V)) (.agg (D.map u8V)) = (eqV E 200 39 (.agg (D.map u8V)) (.agg (D.map u8V))).map fun c => .bool !c := by simp [binO, binV]
  rw [e1] at h1
  rw [e2]
  cases hq : eqV E 200 39 (.agg (D.map u8V)) (.agg (D.map u8V)) with
  | none => rw [hq] at h1; cases h1
  | some b =>
    rw [hq] at h1
    simp only [Option.map_some, Option.some.injEq, V.bool.injEq] at h1
    rw [h1]
    simp
theorem sameF_alike {S T : PS} (h : Alike S T) : sameF S T = true := by
  obtain ⟨sp, ops, D, pc, bad, h1, h2⟩ := h
  unfold sameF
  rw [h1.bad, h2.bad, h1.pc, h2.pc, h1.data, h2.data, h1.ops, h2.ops]
  cases bad <;> simp
theorem thing_len (S : PS) (at_ k : Nat) (f : Shp) : (thingS S at_ k f).ops.length ≤ S.ops.length + 1 := by
  have h1 := pop_len (S.withPc (addW at_ f.len))
  have h2 : (S.withPc (addW at_ f.len)).ops = S.ops := rfl
  have hp : ∀ (S : PS) w, (S.push w).ops.length = S.ops.length + 1 := push_len
  have hb : ∀ (S : PS) b, (S.withBad b).ops = S.ops := fun _ _ => rfl
  have hs : ∀ (S : PS) a w n, (S.store a w n).ops = S.ops := fun _ _ _ _ => rfl
  have hc : ∀ (S : PS) x, (S.withPc x).ops = S.ops := fun _ _ => rfl
  unfold thingS
  dsimp only
  split
  all_goals (try split)
  all_goals (try simp only [hp, hb, hs, hc])
  all_goals (try rw [h2] at h1)
  all_goals omega
theorem fits_fields {w : List Instr} {k : Nat} {f : Shp} (h : longF w = .ok (k, f)) (h1 : f.len = 1) : k = 1 ∧ f = ⟨1, (opF w 0).op, (opF w 0).arg, 0⟩ := by
  obtain ⟨k1, k2, k3, k4⟩ := longF_from h
  dsimp only at k1 k2 k3 k4
  have hk : k = 1 := by rcases k4 with e | e <;> omega
  subst hk
  refine ⟨rfl, ?_⟩
  rw [k3] at h1 ⊢
  show oneS w = _
  unfold oneS
  by_cases h0 : (opF w 0).op = 0
  · have : oneS w = Shp.none := by unfold oneS; rw [if_pos h0]
    change (oneS w).len = 1 at h1
    rw [this] at h1; cases h1
  · rw [if_neg h0]
set_option maxHeartbeats 4000000 in
theorem FuseMeans (lent) (c : List Instr) (a e : Nat) (O R : List Nat) (sp : Nat) (ha : a < 4294967296) (he : e < 4294967296) (hc : c.length < 2 ^ 63) (hO : O.length ≤ 35184372087808) (hRl : R.length < 2 ^ 62) :
    pureV E (om E) 3 lent [lst eInstr c, .int .u32 a, .int .u32 e, lst eW O, lst eB R, .int .u32 sp] = some (bb true) := by
  apply pu_3
  by_cases hl : a < e ∧ e ≤ c.length
  case neg =>
    have hL := fun lent => LongestBad lent c a e ha he hc hl
    simp (disch := omega) [if_pos, if_neg, iteK_pos, iteK_neg, Try.f3, awake, hL, eql_fused, Shp.none]
  have L : Lies c a e := ⟨hl.1, hl.2, he, hc⟩
  have hL := fun lent => Longest lent L
  cases hr : longF (win c a e) with
  | error x =>
    rw [hr] at hL
    obtain ⟨hx, hx'⟩ := longF_err hl.1 hl.2 hr
    have hx0 : ¬ (x : Int) = 0 := by omega
    simp (disch := omega) [if_pos, if_neg, iteK_pos, iteK_neg, Try.f3, awake, hL, eql_fused, Shp.none, hx0]
  | ok p =>
    obtain ⟨k, f⟩ := p
    rw [hr] at hL
    have hle := longF_le hr
    rw [win_length hl.2] at hle
    dsimp only at hle
    by_cases h1 : f.len = 1
    · obtain ⟨rfl, hf⟩ := fits_fields hr h1
      have hop : opF (win c a e) 0 = c[a] := by
        have hbad : insBad c[a] = 0 := by
          apply Classical.byContradiction
          intro hb
          rw [win_cons hl.1 hl.2] at hr
          unfold longF at hr
          dsimp only at hr
          rw [if_neg hb] at hr; cases hr
        rw [win_cons hl.1 hl.2]
        simp [opF, hbad]
      rw [hop] at hf
      rw [hf] at hL
      simp (disch := omega) [if_pos, if_neg, iteK_pos, iteK_neg, Try.f3, awake, hL, eql_fused, hl.1, hl.2]
    · have hk : k ≠ 1 := by
        rintro rfl
        have := (longF_from hr).2.2.1
        dsimp only at this
        rw [this] at h1 hle
        have h2 : (fitsF (win c a e) 1).len ≤ 1 := by
          show (oneS (win c a e)).len ≤ 1
          unfold oneS
          split
          · exact Nat.zero_le _
          · exact Nat.le_refl _
        omega
      have h2 : 1 < f.len := by omega
      have hwl : (win c a e).length = e - a := win_length hl.2
      have hwget : ∀ (i : Nat) (hi : i < (win c a e).length) (hai : a + i < c.length), (win c a e)[i] = c[a + i] := by
        intro i hi hai
        have h1 : (win c a e)[i]? = c[a + i]? := by rw [win_get, if_pos (by rw [hwl] at hi; omega)]
        rw [List.getElem?_eq_getElem hi, List.getElem?_eq_getElem hai] at h1
        exact Option.some.inj h1
      have hNext : ∀ (S0 : PS) (i : Nat) (hi : i < e - a) (hai : a + i < c.length), runs S0 ((win c a e).take (i + 1)) = takeS (runs S0 ((win c a e).take i)) c[a + i] := by
        intro S0 i hi hai
        rw [take_split (w := win c a e) (n := i) (by rw [hwl]; exact hi), runs_append, hwget i _ hai]
        rfl
      have htk : (cat eW O).take O.length = cat eW O := List.take_of_length_le (by simp)
      have hW : (7 :: 9 :: O).length = 2 + O.length := by simp; omega
      have hF2 : opsB (7 :: 9 :: O) 1 = .row (.int .u32 7 :: .int .u32 9 :: cat eW O) 1 1 true true := by rw [cat_eW]; rfl
      have hM1 : ∀ F0 F1, callV E (om E) 9 [.sref 0 2 0 (2 + O.length) 1 (1, false), lst eB R, .int .u32 sp, .int .u32 a] [[F0, F1, .row (.int .u32 7 :: .int .u32 9 :: cat eW O) 1 1 true true]] =
          some (.pref 0 3 0 0, [[F0, F1, .row (.int .u32 7 :: .int .u32 9 :: cat eW O) 1 1 true true, .row ((machF (7 :: 9 :: O) R sp a).pm 4).cells 0 260 false false, opsB (7 :: 9 :: O) 0]]) := by
        intro F0 F1
        rw [← hW, ← hF2]
        exact machine_at (7 :: 9 :: O) R sp a 2 1 [F0, F1, _] (by simp) (by simp; omega) hRl rfl
      have hM2 : ∀ F0 F1 F3 F4, callV E (om E) 9 [.sref 0 2 0 (2 + O.length) 1 (1, false), lst eB R, .int .u32 sp, .int .u32 a] [[F0, F1, .row (.int .u32 7 :: .int .u32 9 :: cat eW O) 1 1 true true, F3, F4]] =
          some (.pref 0 5 0 0, [[F0, F1, .row (.int .u32 7 :: .int .u32 9 :: cat eW O) 1 1 true true, F3, F4, .row ((machF (7 :: 9 :: O) R sp a).pm 6).cells 0 260 false false, opsB (7 :: 9 :: O) 0]]) := by
        intro F0 F1 F3 F4
        rw [← hW, ← hF2]
        exact machine_at (7 :: 9 :: O) R sp a 2 1 [F0, F1, _, F3, F4] (by simp) (by simp; omega) hRl rfl
      have hIs : Is (machF (7 :: 9 :: O) R sp a) sp (7 :: 9 :: O) (fillD R R.length) a false := ⟨rfl, rfl, rfl, rfl, rfl⟩
      have hjunk : (machF (7 :: 9 :: O) R sp a).junk = [] := rfl
      have hep : (machF (7 :: 9 :: O) R sp a).ep = 0 := rfl
      have hdat : ∀ j, ((machF (7 :: 9 :: O) R sp a).pm j).data = (machF (7 :: 9 :: O) R sp a).data := fun _ => rfl
      generalize machF (7 :: 9 :: O) R sp a = S0 at *
      have hld := fun (S : PS) j => load_cells (S.pm j)
      have hlen0 := S0.len
      have hst0 := storeN_zero S0.len
      have hops0 : S0.ops = 7 :: 9 :: O := hIs.ops
      have hsnoc : ∃ o y, 7 :: 9 :: O = o ++ [y] := by
        rcases List.eq_nil_or_concat (7 :: 9 :: O) with h | ⟨l, y, h⟩
        · cases h
        · exact ⟨l, y, by rw [h, List.concat_eq_append]⟩
      obtain ⟨o, y, hoy⟩ := hsnoc
      have hgood := means hr hk (S := S0) (sp := sp) (o := o) (a := y) (D := S0.data) (pc := a) hlen0 ⟨hIs.sp, hIs.ops.trans hoy, rfl, hIs.pc, hIs.bad⟩ (by rw [win_length hl.2]; omega)
      rw [← hoy] at hgood
      have hfine := hgood.1
      have hbound : (7 :: 9 :: O).length + 70 < 35184372088830 := by simp; omega
      have hall := load_all hlen0
      have hneq := fun x y => neq_data x y hlen0
      simp (disch := omega) [if_pos, if_neg, iteK_pos, iteK_neg, Try.f3, awake, hL, h1, h2, hl.1, hl.2, hle.2, htk, hM1, hM2, hld, hdat, -loadN_succ, loadN_one, zero_data, zeroB_len, zeroB_ok, zeroB_flat, zeroB_plain, hlen0, hst0, ok_bytes, flat_bytes, plain_bytes]
      refine loop_chg (dyn := [22]) (fun i : Nat => [(19, .int .u32 i)])
        (fun i => [(0, 3, .row ((runs S0 ((win c a e).take i)).pm 4).cells 0 260 false false), (0, 4, opsB ((runs S0 ((win c a e).take i)).ops ++ (runs S0 ((win c a e).take i)).junk) (runs S0 ((win c a e).take i)).ep)]) (fun _ => [])
        (fun i => i ≤ f.len ∧ (k = 8 → i < f.len)) (fun i => f.len - i) hint_3_0 (by kernel_rfl) ?_ 0 ⟨by omega, fun _ => by omega⟩ (by simp [runs, hops0, hjunk, hep])
      rintro i ⟨hi1, hi2⟩ IH
      rw [lpB_eq]
      by_cases hlt : i < f.len
      · have hfi := hfine i (by rw [List.length_take]; omega)
        rw [List.take_take, show min i f.len = i by omega] at hfi
        obtain ⟨q1, q2, q3, q4⟩ := hfi
        have hai : a + i < c.length := by have := hl.2; omega
        have hn := hNext S0 i (by omega) hai
        have hq : (runs S0 ((win c a e).take i)).ops.length < 35184372088830 := by omega
        by_cases h8 : k = 8
        · have h8' : (k : Int) = 8 := by omega
          by_cases hlast : i + 1 = f.len
          · obtain ⟨hm, _, hc5, hIc⟩ := hgood.2.2 h8
            have hil : f.len - 1 = i := by omega
            have hcop : c[a + i].op = 5 := by
              have e1 : (win c a e)[f.len - 1]? = c[a + i]? := by rw [hil, win_get, if_pos (by omega)]
              rw [List.getElem?_eq_getElem hm, List.getElem?_eq_getElem hai] at e1
              rw [← Option.some.inj e1]; exact hc5
            rw [hil] at hIc
            obtain ⟨u1, u2⟩ := hIc.pops
            clear hc5 hIc hm
            have hpl := fun F0 F1 W A2 O2 G => pop_lit F0 F1 W A2 O2 G (runs S0 ((win c a e).take i)) hq
            have hsw := fun F0 F1 X A2 O2 G => sw_lit F0 F1 A2 O2 G X (runs S0 ((win c a e).take i)).pop.2 O u2.ops (by omega)
            have u3 := u2.bad
            have u4 := u2.ops
            generalize runs S0 ((win c a e).take i) = S at hq q1 q2 q3 u1 u3 u4 hpl hsw ⊢
            clear IH u2 hn
            simp (disch := omega) [if_pos, if_neg, iteK_pos, iteK_neg, hlt, hld, q1, q2, q3, hall, hneq, eq_true h8', hlast, hcop, hpl, u1, u3, hsw, -call_11, -loadN_succ, loadN_one]
            rw [iteK_pos (by kernel_rfl)]
            simp (disch := omega) [if_pos, if_neg, iteK_pos, iteK_neg]
          · have ht := fun F0 F1 W A2 O2 G => take_lit F0 F1 W A2 O2 G (runs S0 ((win c a e).take i)) hq c[a + i]
            rw [← hn] at ht
            generalize hS : runs S0 ((win c a e).take i) = S at hn hq q1 q2 q3 ht ⊢
            simp (disch := omega) [if_pos, if_neg, iteK_pos, iteK_neg, hlt, hld, q1, q2, q3, hall, hneq, eq_true h8', hlast, ht, -loadN_succ, loadN_one]
            exact IH (i + 1) _ _ ⟨by omega, fun _ => by omega⟩ (by omega) (by simp)
        · have h8' : ¬ (k : Int) = 8 := by omega
          have ht := fun F0 F1 W A2 O2 G => take_lit F0 F1 W A2 O2 G (runs S0 ((win c a e).take i)) hq c[a + i]
          rw [← hn] at ht
          generalize hS : runs S0 ((win c a e).take i) = S at hn hq q1 q2 q3 ht ⊢
          simp (disch := omega) [if_pos, if_neg, iteK_pos, iteK_neg, hlt, hld, q1, q2, q3, hall, hneq, h8', ht, -loadN_succ, loadN_one]
          exact IH (i + 1) _ _ ⟨by omega, fun h => absurd h h8⟩ (by omega) (by simp)
      · have hie : i = f.len := by omega
        subst hie
        have h8 : k ≠ 8 := fun h => absurd (hi2 h) (by omega)
        have h8' : ¬ (k : Int) = 8 := by omega
        have hal := hgood.2.1 h8
        have hkr := longF_from hr
        have hkk : k = 2 ∨ k = 3 ∨ k = 4 ∨ k = 5 ∨ k = 6 ∨ k = 7 ∨ k = 9 ∨ k = 10 ∨ k = 11 ∨ k = 12 ∨ k = 13 ∨ k = 14 ∨ k = 15 := by
          have e1 := hkr.1
          have e2 := hkr.2.1
          dsimp only at e1 e2
          omega
        have hl0 : S0.ops.length < 35184372088830 := by rw [hops0]; omega
        have hth : ∀ F0 F1 W A2 O2 G, callV E (om E) 13 [.pref 0 5 0 0, fusedV a k f] [[F0, F1, W, A2, O2, .row (S0.pm 6).cells 0 260 false false, opsB (7 :: 9 :: O) 0, G]] =
            some (.tuple [], [[F0, F1, W, A2, O2, .row ((thingS S0 a k f).pm 6).cells 0 260 false false, opsB ((thingS S0 a k f).ops ++ (thingS S0 a k f).junk) (thingS S0 a k f).ep, G]]) := by
          intro F0 F1 W A2 O2 G
          have := thing_lit F0 F1 W A2 O2 G S0 hl0 hIs.bad a k f hkk
          rw [hops0, hjunk, hep, List.append_nil] at this
          exact this
        have hTl := thing_len S0 a k f
        have hSl : (runs S0 ((win c a e).take f.len)).ops = (thingS S0 a k f).ops := by
          obtain ⟨_, _, _, _, _, g1, g2⟩ := hal
          rw [g1.ops, g2.ops]
        have hsame := fun F0 F1 W G => same_lit F0 F1 W G (runs S0 ((win c a e).take f.len)) (thingS S0 a k f) (by rw [hSl]; omega) (by omega)
        rw [sameF_alike hal] at hsame
        generalize runs S0 ((win c a e).take f.len) = S at hsame ⊢
        generalize thingS S0 a k f = T at hsame hth ⊢
        clear IH hSl hTl hal
        simp (disch := omega) [if_pos, if_neg, iteK_pos, iteK_neg, hlt, hld, h8', hth, hsame, -loadN_succ, loadN_one, load_six]
end Go.Proofs.Ytjmipgfaghjgmaa
end
