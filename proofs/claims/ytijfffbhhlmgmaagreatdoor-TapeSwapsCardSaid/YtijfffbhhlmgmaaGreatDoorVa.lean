/-
  Equal lists: slices.Equal, bytes.Equal, the document's sameWords.
  Equal writes, replies, events.
  The document's sameReply, sameCall.
-/
import Derived.Test.YtijfffbhhlmgmaaGreatDoorNe
import Derived.Test.YtijfffbhhlmgmaaGreatDoorMt
import Derived.Test.YtijfffbhhlmgmaaGreatDoorMe
section
namespace Go.Proofs.YtijfffbhhlmgmaaGreatDoor
open Go Go.Sim Go.Sim.Tape
set_option maxRecDepth 100000
set_option linter.unusedSimpArgs false
set_option linter.unusedVariables false

theorem take_snoc {α : Type} {l : List α} {i : Nat} (h : i < l.length) : l.take (i + 1) = l.take i ++ [l[i]] := by
  rw [List.take_add_one, List.getElem?_eq_getElem h]; rfl
theorem EqualW (lent) (a b : List UInt32) (ha : a.length < 2 ^ 62) (hb : b.length < 2 ^ 62) : pureV E (om E) 17 lent [ws a, ws b] = some (bb (decide (a = b))) := by
  apply pu_17
  by_cases hl : a.length = b.length
  · simp (disch := omega) [if_pos, if_neg, iteK_pos, iteK_neg, Tryz.f17, hl]
    refine loop_chg (dyn := []) (fun n : Nat => [(13, .int .i64 n)]) (fun _ => []) (fun _ => [])
      (fun n => n ≤ a.length ∧ a.take n = b.take n) (fun n => a.length - n) hint_17_0 (by kernel_rfl) ?_ 0 (by simp) (by simp)
    rintro n ⟨hn, hp⟩ IH
    rw [lpB_eq]
    by_cases hlt : n < b.length
    · have hea : a[n]? = some (a[n]'(by omega)) := List.getElem?_eq_getElem (by omega)
      have heb : b[n]? = some b[n] := List.getElem?_eq_getElem hlt
      by_cases hw : a[n]'(by omega) = b[n]
      · simp (disch := omega) [if_pos, if_neg, iteK_pos, iteK_neg, hlt, hl, hw]
        refine IH (n + 1) _ _ ⟨by omega, ?_⟩ (by omega) (by simp)
        rw [List.take_add_one, List.take_add_one, hp, hea, heb, hw]
      · have hne : ¬ a = b := by
          intro h
          subst h
          exact hw rfl
        have hw' : ¬ (a[n].toNat : Int) = (b[n].toNat : Int) := fun h => hw (UInt32.toNat_inj.1 (by omega))
        clear IH
        simp (disch := omega) [if_pos, if_neg, iteK_pos, iteK_neg, hlt, hl, hw', hne]
    · have hab : a = b := by
        rw [List.take_of_length_le (by omega), List.take_of_length_le (by omega)] at hp
        exact hp
      clear IH
      simp (disch := omega) [if_pos, if_neg, iteK_pos, iteK_neg, hlt, hl, hab]
  · have hne : ¬ a = b := fun h => hl (by rw [h])
    simp (disch := omega) [if_pos, if_neg, iteK_pos, iteK_neg, Tryz.f17, hl, hne]
theorem neqGr (x y : Operand) (a b : Gr) : binO E .neq 67 x y (.agg [u32V a.num, ii a.args]) (.agg [u32V b.num, ii b.args]) = some (bb (!decide (a = b))) := by
  refine (binO_neq (eqV_two (n := 196) (by rw [E_P]; exact Tryz.underlying67) (by kernel_rfl) rfl rfl rfl rfl (by rw [E_P]; simp) (by rw [E_P]; simp) (eqV_int (by rw [E_P]; simp)) (eqV_int (by rw [E_P]; simp)))).trans ?_
  obtain ⟨an, aa⟩ := a
  obtain ⟨bn, ba⟩ := b
  congr 3
  rw [Bool.eq_iff_iff]
  simp only [Bool.and_eq_true, beq_iff_eq, decide_eq_true_eq, Gr.mk.injEq]
  exact ⟨fun h => ⟨UInt32.toNat_inj.1 (by omega), h.2⟩, fun h => ⟨by rw [h.1], h.2⟩⟩
theorem EqualG (lent) (a b : List Gr) (ha : a.length < 2 ^ 62) (hb : b.length < 2 ^ 62) : pureV E (om E) 16 lent [lst eGr a, lst eGr b] = some (bb (decide (a = b))) := by
  apply pu_16
  by_cases hl : a.length = b.length
  · simp (disch := omega) [if_pos, if_neg, iteK_pos, iteK_neg, Tryz.f16, hl]
    refine loop_chg (dyn := []) (fun n : Nat => [(13, .int .i64 n)]) (fun _ => []) (fun _ => [])
      (fun n => n ≤ a.length ∧ a.take n = b.take n) (fun n => a.length - n) hint_16_0 (by kernel_rfl) ?_ 0 (by simp) (by simp)
    rintro n ⟨hn, hp⟩ IH
    rw [lpB_eq]
    by_cases hlt : n < b.length
    · have hea : a[n]? = some (a[n]'(by omega)) := List.getElem?_eq_getElem (by omega)
      have heb : b[n]? = some b[n] := List.getElem?_eq_getElem hlt
      by_cases hw : a[n]'(by omega) = b[n]
      · simp (disch := omega) [if_pos, if_neg, iteK_pos, iteK_neg, hlt, hl, hw, neqGr]
        refine IH (n + 1) _ _ ⟨by omega, ?_⟩ (by omega) (by simp)
        rw [List.take_add_one, List.take_add_one, hp, hea, heb, hw]
      · have hne : ¬ a = b := by
          intro h
          subst h
          exact hw rfl
        clear IH
        simp (disch := omega) [if_pos, if_neg, iteK_pos, iteK_neg, hlt, hl, hw, hne, neqGr]
    · have hab : a = b := by
        rw [List.take_of_length_le (by omega), List.take_of_length_le (by omega)] at hp
        exact hp
      clear IH
      simp (disch := omega) [if_pos, if_neg, iteK_pos, iteK_neg, hlt, hl, hab]
  · have hne : ¬ a = b := fun h => hl (by rw [h])
    simp (disch := omega) [if_pos, if_neg, iteK_pos, iteK_neg, Tryz.f16, hl, hne]
theorem bytesEqual (lent) (a b : List UInt8) : pureV E (om E) 37 lent [bs a, bs b] = some (bb (decide (a = b))) := by
  apply pu_37
  simp (disch := omega) [if_pos, if_neg, iteK_pos, iteK_neg, Tryz.f37]
end Go.Proofs.YtijfffbhhlmgmaaGreatDoor
end
section
namespace Go.Proofs.YtijfffbhhlmgmaaGreatDoor
open Go Go.Sim Go.Sim.Tape
set_option maxRecDepth 100000
set_option linter.unusedSimpArgs false
set_option linter.unusedVariables false

theorem nat32 {a b : UInt32} (h : ¬ a = b) : ¬ (a.toNat : Int) = (b.toNat : Int) := fun h' => h (UInt32.toNat_inj.1 (by omega))
theorem nat8 {a b : UInt8} (h : ¬ a = b) : ¬ (a.toNat : Int) = (b.toNat : Int) := fun h' => h (UInt8.toNat_inj.1 (by omega))
theorem sameWrite (lent) (x y : Wr) : pureV E (om E) 36 lent [.agg [u32V x.at_, bs x.bytes], .agg [u32V y.at_, bs y.bytes]] = some (bb (decide (x = y))) := by
  apply pu_36
  have hE := fun lent => bytesEqual lent x.bytes y.bytes
  obtain ⟨xa, xb⟩ := x
  obtain ⟨ya, yb⟩ := y
  by_cases h : xa = ya
  · subst h
    simp (disch := omega) [if_pos, if_neg, iteK_pos, iteK_neg, Tryz.f36, hE]
  · have h' := nat32 h
    simp (disch := omega) [if_pos, if_neg, iteK_pos, iteK_neg, Tryz.f36, h, h']
theorem EqualWr (lent) (a b : List Wr) (ha : a.length < 2 ^ 62) (hb : b.length < 2 ^ 62) : pureV E (om E) 35 lent [lst eWr a, lst eWr b, .func (.func 36) [] []] = some (bb (decide (a = b))) := by
  apply pu_35
  by_cases hl : a.length = b.length
  · simp (disch := omega) [if_pos, if_neg, iteK_pos, iteK_neg, Tryz.f35, hl]
    refine loop_chg (dyn := []) (fun n : Nat => [(17, .int .i64 n)]) (fun _ => []) (fun _ => [])
      (fun n => n ≤ a.length ∧ a.take n = b.take n) (fun n => a.length - n) hint_35_0 (by kernel_rfl) ?_ 0 (by simp) (by simp)
    rintro n ⟨hn, hp⟩ IH
    rw [lpB_eq]
    by_cases hlt : n < b.length
    · have hea : a[n]? = some (a[n]'(by omega)) := List.getElem?_eq_getElem (by omega)
      have heb : b[n]? = some b[n] := List.getElem?_eq_getElem hlt
      have hS := fun lent => sameWrite lent (a[n]'(by omega)) b[n]
      by_cases hw : a[n]'(by omega) = b[n]
      · have hS' := fun lent => sameWrite lent b[n] b[n]
        simp (disch := omega) [if_pos, if_neg, iteK_pos, iteK_neg, hlt, hl, hw, hS']
        refine IH (n + 1) _ _ ⟨by omega, ?_⟩ (by omega) (by simp)
        rw [List.take_add_one, List.take_add_one, hp, hea, heb, hw]
      · have hne : ¬ a = b := by
          intro h
          subst h
          exact hw rfl
        clear IH
        simp (disch := omega) [if_pos, if_neg, iteK_pos, iteK_neg, hlt, hl, hw, hS, hne]
    · have hab : a = b := by
        rw [List.take_of_length_le (by omega), List.take_of_length_le (by omega)] at hp
        exact hp
      clear IH
      simp (disch := omega) [if_pos, if_neg, iteK_pos, iteK_neg, hlt, hl, hab]
  · have hne : ¬ a = b := fun h => hl (by rw [h])
    simp (disch := omega) [if_pos, if_neg, iteK_pos, iteK_neg, Tryz.f35, hl, hne]
theorem tReply (lent) (x y : Rp) (hx : FRp x) (hy : FRp y) : pureV E (om E) 19 lent [.agg [u32V x.val, lst eWr x.writes], .agg [u32V y.val, lst eWr y.writes]] = some (bb (decide (x = y))) := by
  apply pu_19
  have h1 := hx.writes
  have h2 := hy.writes
  have hE := fun lent => EqualWr lent x.writes y.writes (by omega) (by omega)
  obtain ⟨xa, xb⟩ := x
  obtain ⟨ya, yb⟩ := y
  by_cases h : xa = ya
  · subst h
    simp (disch := omega) [if_pos, if_neg, iteK_pos, iteK_neg, Tryz.f19, hE]
  · have h' := nat32 h
    simp (disch := omega) [if_pos, if_neg, iteK_pos, iteK_neg, Tryz.f19, h, h']
theorem EqualRp (lent) (a b : List Rp) (ha : a.length < 2 ^ 62) (hb : b.length < 2 ^ 62) (fa : ∀ r ∈ a, FRp r) (fb : ∀ r ∈ b, FRp r) : pureV E (om E) 18 lent [lst eRp a, lst eRp b, .func (.func 19) [] []] = some (bb (decide (a = b))) := by
  apply pu_18
  by_cases hl : a.length = b.length
  · simp (disch := omega) [if_pos, if_neg, iteK_pos, iteK_neg, Tryz.f18, hl]
    refine loop_chg (dyn := []) (fun n : Nat => [(17, .int .i64 n)]) (fun _ => []) (fun _ => [])
      (fun n => n ≤ a.length ∧ a.take n = b.take n) (fun n => a.length - n) hint_18_0 (by kernel_rfl) ?_ 0 (by simp) (by simp)
    rintro n ⟨hn, hp⟩ IH
    rw [lpB_eq]
    by_cases hlt : n < b.length
    · have hea : a[n]? = some (a[n]'(by omega)) := List.getElem?_eq_getElem (by omega)
      have heb : b[n]? = some b[n] := List.getElem?_eq_getElem hlt
      have hS := fun lent => tReply lent (a[n]'(by omega)) b[n] (fa _ (List.getElem_mem _)) (fb _ (List.getElem_mem _))
      by_cases hw : a[n]'(by omega) = b[n]
      · have hS' := fun lent => tReply lent b[n] b[n] (fb _ (List.getElem_mem _)) (fb _ (List.getElem_mem _))
        simp (disch := omega) [if_pos, if_neg, iteK_pos, iteK_neg, hlt, hl, hw, hS']
        refine IH (n + 1) _ _ ⟨by omega, ?_⟩ (by omega) (by simp)
        rw [List.take_add_one, List.take_add_one, hp, hea, heb, hw]
      · have hne : ¬ a = b := by
          intro h
          subst h
          exact hw rfl
        clear IH
        simp (disch := omega) [if_pos, if_neg, iteK_pos, iteK_neg, hlt, hl, hw, hS, hne]
    · have hab : a = b := by
        rw [List.take_of_length_le (by omega), List.take_of_length_le (by omega)] at hp
        exact hp
      clear IH
      simp (disch := omega) [if_pos, if_neg, iteK_pos, iteK_neg, hlt, hl, hab]
  · have hne : ¬ a = b := fun h => hl (by rw [h])
    simp (disch := omega) [if_pos, if_neg, iteK_pos, iteK_neg, Tryz.f18, hl, hne]
abbrev evV (x : Ev) : V := .agg [u32V x.at_, u32V x.num, ws x.args, u32V x.val]
theorem tEvent (lent) (x y : Ev) (hx : FEv x) (hy : FEv y) : pureV E (om E) 38 lent [evV x, evV y] = some (bb (decide (x = y))) := by
  apply pu_38
  have h1 := hx.args
  have h2 := hy.args
  have hE := fun lent => EqualW lent x.args y.args (by omega) (by omega)
  obtain ⟨xa, xn, xg, xv⟩ := x
  obtain ⟨ya, yn, yg, yv⟩ := y
  by_cases h : xa = ya
  · subst h
    by_cases h : xn = yn
    · subst h
      by_cases h : xv = yv
      · subst h
        simp (disch := omega) [if_pos, if_neg, iteK_pos, iteK_neg, Tryz.f38, hE]
      · have h' := nat32 h
        simp (disch := omega) [if_pos, if_neg, iteK_pos, iteK_neg, Tryz.f38, h, h']
    · have h' := nat32 h
      simp (disch := omega) [if_pos, if_neg, iteK_pos, iteK_neg, Tryz.f38, h, h']
  · have h' := nat32 h
    simp (disch := omega) [if_pos, if_neg, iteK_pos, iteK_neg, Tryz.f38, h, h']
end Go.Proofs.YtijfffbhhlmgmaaGreatDoor
end
section
namespace Go.Proofs.YtijfffbhhlmgmaaGreatDoor
open Go Go.Sim Go.Sim.Tape
set_option maxRecDepth 100000
set_option linter.unusedSimpArgs false
set_option linter.unusedVariables false

end Go.Proofs.YtijfffbhhlmgmaaGreatDoor
end
