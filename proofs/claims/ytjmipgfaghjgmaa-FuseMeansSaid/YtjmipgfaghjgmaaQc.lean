/-
  playpenkit.SameWords; the law's same.
  The law's machine.
-/
import Derived.Test.YtjmipgfaghjgmaaQa
import Derived.Test.YtjmipgfaghjgmaaMd
section
namespace Go.Proofs.Ytjmipgfaghjgmaa
open Go Go.Sim
set_option maxRecDepth 100000
set_option linter.unusedSimpArgs false
set_option linter.unusedVariables false
@[simp] theorem plain_eW (l : List Nat) : V.plainL (cat eW l) = true := cat_plain eW (fun _ => by simp) l
@[simp] theorem cut_eW (l : List Nat) : cutCells (cat eW l) 0 l.length 1 = cat eW l := cut_all eW rfl rfl
@[simp] theorem fold_eW (l : List Nat) : V.scon (cat eW l) 0 l.length false = lst eW l := rfl
theorem SameWords (lent) (a b : List Nat) (ha : a.length < 2 ^ 62) (hb : b.length < 2 ^ 62) : pureV E (om E) 11 lent [lst eW a, lst eW b] = some (bb (decide (a = b))) := by
  apply pu_11
  by_cases hl : a.length = b.length
  · simp (disch := omega) [if_pos, if_neg, iteK_pos, iteK_neg, Try.f11, hl]
    refine loop_chg (dyn := []) (fun n : Nat => [(5, .int .i64 n)]) (fun _ => []) (fun _ => [])
      (fun n => n ≤ a.length ∧ a.take n = b.take n) (fun n => a.length - n) hint_11_0 (by kernel_rfl) ?_ 0 (by simp) (by simp)
    rintro n ⟨hn, hp⟩ IH
    rw [lpB_eq]
    by_cases hlt : n < b.length
    · have hea : a[n]? = some (a[n]'(by omega)) := List.getElem?_eq_getElem (by omega)
      have heb : b[n]? = some b[n] := List.getElem?_eq_getElem hlt
      by_cases hw : a[n]'(by omega) = b[n]
      · simp (disch := omega) [if_pos, if_neg, iteK_pos, iteK_neg, hlt, hw]
        refine IH (n + 1) _ _ ⟨by omega, ?_⟩ (by omega) (by simp)
        rw [List.take_add_one, List.take_add_one, hp, hea, heb, hw]
      · have hne : ¬ a = b := by
          intro h
          subst h
          exact hw rfl
        clear IH
        simp (disch := omega) [if_pos, if_neg, iteK_pos, iteK_neg, hlt, hw, hne]
    · have hab : a = b := by
        rw [List.take_of_length_le (by omega), List.take_of_length_le (by omega)] at hp
        exact hp
      clear IH
      simp (disch := omega) [if_pos, if_neg, iteK_pos, iteK_neg, hlt, hab]
  · have hne : ¬ a = b := fun h => hl (by rw [h])
    simp (disch := omega) [if_pos, if_neg, iteK_pos, iteK_neg, Try.f11, hl, hne]
theorem items_eq {D D' : List Nat} (h : D.length = 256) (h' : D'.length = 256) : ∀ is : List Nat, (∀ i ∈ is, i < 256) → eqItemsV Try.prog 5 1 (D.map u8V) (D'.map u8V) is = some (decide (∀ i ∈ is, D[i]? = D'[i]?))
  | [], _ => by simp [eqItemsV]
  | i :: is, hi => by
    have hlt := hi i (by simp)
    have h1 : partV Try.prog 5 (D.map u8V) (i * 1) = some (u8V (D[i]'(by omega))) := by
      simp only [partV, agg_5, Option.bind_some, Bool.false_eq_true, if_false, Nat.mul_one, List.getElem?_map, List.getElem?_eq_getElem (show i < D.length by omega), Option.map_some]
    have h2 : partV Try.prog 5 (D'.map u8V) (i * 1) = some (u8V (D'[i]'(by omega))) := by
      simp only [partV, agg_5, Option.bind_some, Bool.false_eq_true, if_false, Nat.mul_one, List.getElem?_map, List.getElem?_eq_getElem (show i < D'.length by omega), Option.map_some]
    have ih := items_eq h h' is (fun j hj => hi j (by simp [hj]))
    have e1 : D[i]? = some (D[i]'(by omega)) := List.getElem?_eq_getElem (by omega)
    have e2 : D'[i]? = some (D'[i]'(by omega)) := List.getElem?_eq_getElem (by omega)
    simp only [eqItemsV, h1, h2, Option.bind_some, if_true, ih]
    by_cases he : (D[i]'(by omega)) = (D'[i]'(by omega))
    · rw [if_pos (by rw [he])]
      congr 1
      apply decide_eq_decide.2
      simp [e1, e2, he]
    · rw [if_neg (by omega)]
      simp [e1, e2, he]
theorem eql_data (x y : Operand) {D D' : List Nat} (h : D.length = 256) (h' : D'.length = 256) : binO E .eql 39 x y (.agg (D.map u8V)) (.agg (D'.map u8V)) = some (.bool (decide (D = D'))) := by
  have hu := Try.underlying39
  rw [← E_P] at hu
  refine binO_eql ?_
  have hi := items_eq h h' (List.range 256) (fun i hi => List.mem_range.1 hi)
  have hc : Try.prog.cellsOf 5 = 1 := by kernel_rfl
  have harr : eqArrV Try.prog 256 5 (D.map u8V) (D'.map u8V) = some (decide (∀ i ∈ List.range 256, D[i]? = D'[i]?)) := by
    unfold eqArrV
    rw [Try.underlying5, size_5, hc]
    exact hi
  have hd : decide (∀ i ∈ List.range 256, D[i]? = D'[i]?) = decide (D = D') := by
    apply decide_eq_decide.2
    constructor
    · intro hall
      apply List.ext_getElem?
      intro i
      by_cases hi : i < 256
      · exact hall i (List.mem_range.2 hi)
      · rw [List.getElem?_eq_none (by omega), List.getElem?_eq_none (by omega)]
    · rintro rfl i _; rfl
  rw [← hd, ← harr]
  have hct : E.eqTypes.contains 39 = true := by kernel_rfl
  simp only [eqV, hu, hct, Bool.true_and, E_P]
  rfl
theorem loadN_one (cs : List V) (o : Nat) : loadN cs o 1 = (cs[o]?).bind fun v => some [v] := by
  rw [loadN_succ]; rfl
theorem load_data (M : PM) (v : V) : loadN (M.cw v) 2 256 = some (M.data.map u8V) := by
  rw [loadN_take _ _ _ (by simp)]
  unfold PM.cw
  rw [List.drop_succ_cons, List.drop_succ_cons, List.drop_zero, List.take_append_of_le_length (by simp [M.len]), List.take_of_length_le (by simp [M.len])]
def sameF (a b : PS) : Bool := a.bad == b.bad && (a.bad || (decide (a.pc = b.pc) && decide (a.data = b.data) && decide (a.ops = b.ops)))
theorem same1 (lent) (a b : PS) (ha : a.ops.length < 2 ^ 62) (hb : b.ops.length < 2 ^ 62) : pureV E (om E) 14 lent [.pcon ((a.pm 0).cw (lst eW a.ops)) 0, .pcon ((b.pm 0).cw (lst eW b.ops)) 0] = some (bb (sameF a b)) := by
  have hS := fun lent => SameWords lent a.ops b.ops ha hb
  have hD := fun x y => eql_data x y a.len b.len
  have hDb := fun x y => eql_data x y b.len b.len
  apply pu_14
  unfold sameF
  have hB : ∀ x y c d, binO E .eql 4 x y (.bool c) (.bool d) = some (.bool (decide (c = d))) := fun x y c d => bin_beql (E := E) 4 x y (by rw [E_P]; simp)
  have b1 : (a.pm 0).bad = a.bad := rfl
  have b2 : (b.pm 0).bad = b.bad := rfl
  have p1 : (a.pm 0).pc = a.pc := rfl
  have p2 : (b.pm 0).pc = b.pc := rfl
  have pm_d : ∀ S : PS, (S.pm 0).data = S.data := fun _ => rfl
  cases hab : a.bad <;> cases hbb : b.bad
  · by_cases hp : a.pc = b.pc
    · by_cases hd : a.data = b.data
      · simp (disch := omega) [if_pos, if_neg, iteK_pos, iteK_neg, Try.f14, hB, b1, b2, p1, p2, hab, hbb, hp, hD, hDb, hd, hS, -loadN_succ, loadN_one, load_data, pm_d]
      · simp (disch := omega) [if_pos, if_neg, iteK_pos, iteK_neg, Try.f14, hB, b1, b2, p1, p2, hab, hbb, hp, hD, hDb, hd, hS, -loadN_succ, loadN_one, load_data, pm_d]
    · simp (disch := omega) [if_pos, if_neg, iteK_pos, iteK_neg, Try.f14, hB, b1, b2, p1, p2, hab, hbb, hp, -loadN_succ, loadN_one]
  · simp (disch := omega) [if_pos, if_neg, iteK_pos, iteK_neg, Try.f14, hB, b1, b2, p1, p2, hab, hbb, -loadN_succ, loadN_one]
  · simp (disch := omega) [if_pos, if_neg, iteK_pos, iteK_neg, Try.f14, hB, b1, b2, p1, p2, hab, hbb, -loadN_succ, loadN_one]
  · simp (disch := omega) [if_pos, if_neg, iteK_pos, iteK_neg, Try.f14, hB, b1, b2, p1, p2, hab, hbb, -loadN_succ, loadN_one]
end Go.Proofs.Ytjmipgfaghjgmaa
end
section
namespace Go.Proofs.Ytjmipgfaghjgmaa
open Go Go.Sim
set_option maxRecDepth 100000
set_option linter.unusedSimpArgs false
set_option linter.unusedVariables false
/-- A machine with these words and bytes. -/
def fillD (raw : List Nat) (i : Nat) : List Nat := raw.take (min i 256) ++ List.replicate (256 - min (min i 256) raw.length) 0
theorem fillD_len (raw : List Nat) (i : Nat) : (fillD raw i).length = 256 := by unfold fillD; simp; omega
theorem fillD_set (raw : List Nat) {i : Nat} (h : i < raw.length) (h' : i < 256) : (fillD raw i).set i raw[i] = fillD raw (i + 1) := by
  apply List.ext_getElem?
  intro k
  rw [List.getElem?_set]
  unfold fillD
  have e1 : min i 256 = i := by omega
  have e2 : min (i + 1) 256 = i + 1 := by omega
  rw [e1, e2, show min i raw.length = i by omega, show min (i + 1) raw.length = i + 1 by omega]
  have hL : (raw.take i).length = i := by simp; omega
  have hL1 : (raw.take (i + 1)).length = i + 1 := by simp; omega
  by_cases hk : i = k
  · subst hk
    rw [if_pos rfl, if_pos (by simp; omega), List.getElem?_append_left (by omega), List.getElem?_take_of_lt (by omega), List.getElem?_eq_getElem h]
  · rw [if_neg hk]
    by_cases hlt : k < i
    · rw [List.getElem?_append_left (by omega), List.getElem?_append_left (by omega), List.getElem?_take_of_lt hlt, List.getElem?_take_of_lt (by omega)]
    · rw [List.getElem?_append_right (by omega), List.getElem?_append_right (by omega), hL, hL1, List.getElem?_replicate, List.getElem?_replicate]
      by_cases h3 : k - i < 256 - i
      · rw [if_pos h3, if_pos (by omega)]
      · rw [if_neg h3, if_neg (by omega)]
/-- The machine while its data are being laid. -/
def layF (ops raw : List Nat) (sp at_ i : Nat) : PS := ⟨sp, ops, fillD raw i, at_, false, [], 0, fillD_len raw i⟩
def machF (ops raw : List Nat) (sp at_ : Nat) : PS := layF ops raw sp at_ raw.length
def eB : Enc Nat where
  enc x := [u8V x]
  k := 1
  pos := by omega
  len := fun _ => rfl
  canon := fun _ => by simp
  flat := fun _ => by simp
  ok := fun _ => by simp
@[simp] theorem eB_k : eB.k = 1 := rfl
@[simp] theorem eB_enc (s) : eB.enc s = [u8V s] := rfl
def PM.zero : PM := ⟨0, [], List.replicate 256 0, 0, false, 0, 0, by simp⟩
theorem zero_plain : zeroV Try.prog 41 = some (.agg (PM.zero.cw .nilslice)) := by kernel_rfl
def PM.made (sp at_ : Nat) : PM := ⟨sp, [], List.replicate 256 0, at_, false, 0, 0, by simp⟩
theorem made_eq (sp at_ : Nat) : ((PM.zero.cw .nilslice).set 0 (u32V sp)).set 258 (u32V at_) = (PM.made sp at_).cw .nilslice := by
  unfold PM.cw
  rw [List.set_cons_zero, List.set_cons_succ, List.set_cons_succ, List.set_append_right _ _ (by simp [PM.zero])]
  simp [PM.zero, PM.made]
theorem cw_set1 (M : PM) (v v' : V) : (M.cw v).set 1 v' = M.cw v' := rfl
theorem ok_bytes (D : List Nat) : okCells (D.map u8V) = true := by induction D with | nil => simp | cons x r ih => simp [okCells, List.all_cons] at ih ⊢
theorem flat_bytes (D : List Nat) : V.flatL (D.map u8V) = true := by induction D with | nil => simp | cons x r ih => simp [ih]
theorem plain_bytes (D : List Nat) : V.plainL (D.map u8V) = true := by induction D with | nil => simp | cons x r ih => simp [ih]
theorem ok_cw (M : PM) (v : V) (h : okCells [v] = true) : okCells (M.cw v) = true := by
  have h1 := ok_bytes M.data
  unfold PM.cw
  rw [show u32V M.sp :: v :: (M.data.map u8V ++ [u32V M.pc, bb M.bad]) = [u32V M.sp] ++ ([v] ++ (M.data.map u8V ++ [u32V M.pc, bb M.bad])) from rfl]
  simp only [okCells_append, h, h1]
  simp [okCells]
theorem flat_cw (M : PM) (v : V) : V.flatL (M.cw v) = V.flat v := by
  unfold PM.cw
  have : V.flatL (M.data.map u8V ++ [u32V M.pc, bb M.bad]) = true := flatL_append (flat_bytes _) (by simp)
  simp only [V.flatL, this]
  simp
theorem plain_cw (M : PM) (v : V) : V.plainL (M.cw v) = V.plain v := by
  unfold PM.cw
  have : V.plainL (M.data.map u8V ++ [u32V M.pc, bb M.bad]) = true := plainL_append (plain_bytes _) (by simp)
  simp only [V.plainL, this]
  simp
theorem made_lay (ops raw : List Nat) (sp at_ : Nat) : (PM.made sp at_).cw (.sref 0 1 0 ops.length 0 (1, false)) = ((layF ops raw sp at_ 0).pm 1).cells := by
  unfold PM.cells PM.cw PM.made layF PS.pm fillD
  simp
theorem fill_all (raw : List Nat) {i : Nat} (h : i ≤ raw.length) (h' : i = 256 ∨ i = raw.length) : fillD raw i = fillD raw raw.length := by
  unfold fillD
  rcases h' with rfl | rfl
  · rw [show min raw.length 256 = 256 by omega, show min 256 256 = 256 by omega]
  · rfl
set_option maxHeartbeats 1000000 in
theorem machine_body (ops raw : List Nat) (sp at_ : Nat) (j : Nat) (ep : Nat) (h : Heap) (hne : ops ≠ []) (hb : ops.length * 4 ≤ 140737488355328) (hr : raw.length < 2 ^ 62) (ho : h.get 0 j = some (opsB ops ep)) :
    bodyV E (om E) 9 [.sref 1 j 0 ops.length ep (1, false), lst eB raw, .int .u32 sp, .int .u32 at_] ([] :: h) = some (.pref 0 0 0 0, [((machF ops raw sp at_).pm 1).blk, opsB ops 0] :: h) := by
  apply bo_9
  have hm := made_eq sp at_
  have hok := ok_cw (PM.made sp at_) .nilslice (by rfl)
  unfold opsB at ho ⊢
  have hpos : ¬ ops.length = 0 := fun h => hne (List.eq_nil_of_length_eq_zero h)
  have hbig : ¬ 140737488355328 < ops.length * 4 := by omega
  have htk : (ops.map u32V).take ops.length = ops.map u32V := List.take_of_length_le (by simp)
  have hlay := made_lay ops raw sp at_
  have hend : ∀ i, i ≤ raw.length → (i = 256 ∨ i = raw.length) → ((layF ops raw sp at_ i).pm 1).cells = ((machF ops raw sp at_).pm 1).cells := fun i h1 h2 => by
    unfold PM.cells PM.cw machF layF PS.pm
    dsimp only
    rw [fill_all raw h1 h2]
  unfold PM.blk
  simp (disch := omega) [if_pos, if_neg, iteK_pos, iteK_neg, Try.f9, zero_plain, hm, ho, cw_set1, hok, flat_cw, plain_cw, hpos, hbig, htk, hlay]
  refine loop_chg (dyn := []) (fun i : Nat => [(10, .int .i64 i)]) (fun i => [(0, 0, .row ((layF ops raw sp at_ i).pm 1).cells 0 260 false false)]) (fun _ => [])
    (fun i => i ≤ raw.length ∧ i ≤ 256) (fun i => 256 - i) hint_9_0 (by kernel_rfl) ?_ 0 (by simp) (by simp)
  rintro i ⟨h1, h2⟩ IH
  rw [lpB_eq]
  by_cases hlt : i < raw.length
  · by_cases hlt2 : i < 256
    · have hs : ((layF ops raw sp at_ i).pm 1).cells.set (2 + i) (u8V raw[i]) = ((layF ops raw sp at_ (i + 1)).pm 1).cells := by
        rw [PM.set_d _ _ hlt2]
        unfold PM.cells PM.cw PM.withData layF PS.pm
        dsimp only
        rw [fillD_set raw hlt hlt2]
      simp (disch := omega) [if_pos, if_neg, iteK_pos, iteK_neg, hlt, hlt2, hs]
      exact IH (i + 1) _ _ ⟨by omega, by omega⟩ (by omega) (by simp)
    · have he := hend i h1 (.inl (by omega))
      clear IH
      simp (disch := omega) [if_pos, if_neg, iteK_pos, iteK_neg, hlt, hlt2, he]
  · have he := hend i h1 (.inr (by omega))
    clear IH
    simp (disch := omega) [if_pos, if_neg, iteK_pos, iteK_neg, hlt, he]
end Go.Proofs.Ytjmipgfaghjgmaa
end
