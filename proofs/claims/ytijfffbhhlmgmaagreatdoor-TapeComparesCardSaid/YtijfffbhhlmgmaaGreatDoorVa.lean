/-
 Equal lists: slices.Equal, bytes.Equal, the document's sameWords.
 Equal writes, replies, events.
 The document's sameReply, sameCall.
-/
import Derived.Test.YtijfffbhhlmgmaaGreatDoorNe
import Derived.Test.YtijfffbhhlmgmaaGreatDoorMt
import Derived.Test.YtijfffbhhlmgmaaGreatDoorMe
section
namespace Go.Proofs.YtijfffbhhlmgmaaGreatDoor
open Go Go.Sim Go.Sim.Tape
set_option maxRecDepth 100000
set_option linter.unusedSimpArgs false
set_option linter.unusedVariables false

theorem take_snoc {α : Type} {l : List α} {i : Nat} (h : i < l.length) : l.take (i + 1) = l.take i ++ [l[i]] := by
 rw [List.take_add_one, List.getElem?_eq_getElem h]; rfl
theorem EqualW (lent) (a b : List UInt32) (ha : a.length < 2 ^ 62) (hb : b.length < 2 ^ 62) : pureV E (om E) 17 lent [ws a, ws b] = some (bb (decide (a = b))) := by
 apply pu_17
 by_cases hl : a.length = b.length
 ·simp (disch := omega) [if_pos, if_neg, iteK_pos, iteK_neg, Tryz.f17, hl]
  refine loop_chg (dyn := []) (fun n : Nat => [(13, .int .i64 n)]) (fun _ => []) (fun _ => [])
   (fun n => n ≤ a.length ∧ a.take n = b.take n) (fun n => a.length - n) hint_17_0 (by kernel_rfl) ?_ 0 (by simp) (by simp)
  rintro n ⟨hn, hp⟩ IH
  rw [lpB_eq]
  by_cases hlt : n < b.length
  ·have hea : a[n]? = some (a[n]'(by omega)) := List.getElem?_eq_getElem (by omega)
   have heb : b[n]? = some b[n] := List.getElem?_eq_getElem hlt
   by_cases hw : a[n]'(by omega) = b[n]
   ·simp (disch := omega) [if_pos, if_neg, iteK_pos, iteK_neg, hlt, hl, hw]
    refine IH (n + 1) _ _ ⟨by omega, ?_⟩ (by omega) (by simp)
    rw [List.take_add_one, List.take_add_one, hp, hea, heb, hw]
   ·have hne : ¬ a = b := by
     intro h
     subst h
     exact hw rfl
    have hw' : ¬ (a[n].toNat : Int) = (b[n].toNat : Int) := fun h => hw (UInt32.toNat_inj.1 (by omega))
    clear IH
    simp (disch := omega) [if_pos, if_neg, iteK_pos, iteK_neg, hlt, hl, hw', hne]
  ·have hab : a = b := by
    rw [List.take_of_length_le (by omega), List.take_of_length_le (by omega)] at hp
    exact hp
   clear IH
   simp (disch := omega) [if_pos, if_neg, iteK_pos, iteK_neg, hlt, hl, hab]
 ·have hne : ¬ a = b := fun h => hl (by rw [h])
  simp (disch := omega) [if_pos, if_neg, iteK_pos, iteK_neg, Tryz.f17, hl, hne]
theorem sameWords (lent) (a b : List UInt32) (ha : a.length < 2 ^ 62) (hb : b.length < 2 ^ 62) : pureV E (om E) 39 lent [ws a, ws b] = some (bb (decide (a = b))) := by
 apply pu_39
 by_cases hl : a.length = b.length
 ·simp (disch := omega) [if_pos, if_neg, iteK_pos, iteK_neg, Tryz.f39, hl]
  refine loop_chg (dyn := []) (fun n : Nat => [(5, .int .i64 n)]) (fun _ => []) (fun _ => [])
   (fun n => n ≤ a.length ∧ a.take n = b.take n) (fun n => a.length - n) hint_39_0 (by kernel_rfl) ?_ 0 (by simp) (by simp)
  rintro n ⟨hn, hp⟩ IH
  rw [lpB_eq]
  by_cases hlt : n < b.length
  ·have hea : a[n]? = some (a[n]'(by omega)) := List.getElem?_eq_getElem (by omega)
   have heb : b[n]? = some b[n] := List.getElem?_eq_getElem hlt
   by_cases hw : a[n]'(by omega) = b[n]
   ·simp (disch := omega) [if_pos, if_neg, iteK_pos, iteK_neg, hlt, hl, hw]
    refine IH (n + 1) _ _ ⟨by omega, ?_⟩ (by omega) (by simp)
    rw [List.take_add_one, List.take_add_one, hp, hea, heb, hw]
   ·have hne : ¬ a = b := by
     intro h
     subst h
     exact hw rfl
    have hw' : ¬ (a[n].toNat : Int) = (b[n].toNat : Int) := fun h => hw (UInt32.toNat_inj.1 (by omega))
    clear IH
    simp (disch := omega) [if_pos, if_neg, iteK_pos, iteK_neg, hlt, hl, hw', hne]
  ·have hab : a = b := by
    rw [List.take_of_length_le (by omega), List.take_of_length_le (by omega)] at hp
    exact hp
   clear IH
   simp (disch := omega) [if_pos, if_neg, iteK_pos, iteK_neg, hlt, hl, hab]
 ·have hne : ¬ a = b := fun h => hl (by rw [h])
  simp (disch := omega) [if_pos, if_neg, iteK_pos, iteK_neg, Tryz.f39, hl, hne]
theorem neqGr (x y : Operand) (a b : Gr) : binO E .neq 67 x y (.agg [u32V a.num, ii a.args]) (.agg [u32V b.num, ii b.args]) = some (bb (!decide (a = b))) := by
 refine (binO_neq (eqV_two (n := 196) (by rw [E_P]; exact Tryz.underlying67) (by kernel_rfl) rfl rfl rfl rfl (by rw [E_P]; simp) (by rw [E_P]; simp) (eqV_int (by rw [E_P]; simp)) (eqV_int (by rw [E_P]; simp)))).trans ?_
 obtain ⟨an, aa⟩ := a
 obtain ⟨bn, ba⟩ := b
 congr 3
 rw [Bool.eq_iff_iff]
 simp only [Bool.and_eq_true, beq_iff_eq, decide_eq_true_eq, Gr.mk.injEq]
 exact ⟨fun h => ⟨UInt32.toNat_inj.1 (by omega), h.2⟩, fun h => ⟨by rw [h.1], h.2⟩⟩
theorem EqualG (lent) (a b : List Gr) (ha : a.length < 2 ^ 62) (hb : b.length < 2 ^ 62) : pureV E (om E) 16 lent [lst eGr a, lst eGr b] = some (bb (decide (a = b))) := by
 apply pu_16
 by_cases hl : a.length = b.length
 ·simp (disch := omega) [if_pos, if_neg, iteK_pos, iteK_neg, Tryz.f16, hl]
  refine loop_chg (dyn := []) (fun n : Nat => [(13, .int .i64 n)]) (fun _ => []) (fun _ => [])
   (fun n => n ≤ a.length ∧ a.take n = b.take n) (fun n => a.length - n) hint_16_0 (by kernel_rfl) ?_ 0 (by simp) (by simp)
  rintro n ⟨hn, hp⟩ IH
  rw [lpB_eq]
  by_cases hlt : n < b.length
  ·have hea : a[n]? = some (a[n]'(by omega)) := List.getElem?_eq_getElem (by omega)
   have heb : b[n]? = some b[n] := List.getElem?_eq_getElem hlt
   by_cases hw : a[n]'(by omega) = b[n]
   ·simp (disch := omega) [if_pos, if_neg, iteK_pos, iteK_neg, hlt, hl, hw, neqGr]
    refine IH (n + 1) _ _ ⟨by omega, ?_⟩ (by omega) (by simp)
    rw [List.take_add_one, List.take_add_one, hp, hea, heb, hw]
   ·have hne : ¬ a = b := by
     intro h
     subst h
     exact hw rfl
    clear IH
    simp (disch := omega) [if_pos, if_neg, iteK_pos, iteK_neg, hlt, hl, hw, hne, neqGr]
  ·have hab : a = b := by
    rw [List.take_of_length_le (by omega), List.take_of_length_le (by omega)] at hp
    exact hp
   clear IH
   simp (disch := omega) [if_pos, if_neg, iteK_pos, iteK_neg, hlt, hl, hab]
 ·have hne : ¬ a = b := fun h => hl (by rw [h])
  simp (disch := omega) [if_pos, if_neg, iteK_pos, iteK_neg, Tryz.f16, hl, hne]
theorem sameGrants (lent) (a b : List Gr) (ha : a.length < 2 ^ 62) (hb : b.length < 2 ^ 62) : pureV E (om E) 21 lent [lst eGr a, lst eGr b] = some (bb (decide (a = b))) := by
 apply pu_21
 by_cases hl : a.length = b.length
 ·simp (disch := omega) [if_pos, if_neg, iteK_pos, iteK_neg, Tryz.f21, hl]
  refine loop_chg (dyn := []) (fun n : Nat => [(5, .int .i64 n)]) (fun _ => []) (fun _ => [])
   (fun n => n ≤ a.length ∧ a.take n = b.take n) (fun n => a.length - n) hint_21_0 (by kernel_rfl) ?_ 0 (by simp) (by simp)
  rintro n ⟨hn, hp⟩ IH
  rw [lpB_eq]
  by_cases hlt : n < b.length
  ·have hea : a[n]? = some (a[n]'(by omega)) := List.getElem?_eq_getElem (by omega)
   have heb : b[n]? = some b[n] := List.getElem?_eq_getElem hlt
   by_cases hw : a[n]'(by omega) = b[n]
   ·simp (disch := omega) [if_pos, if_neg, iteK_pos, iteK_neg, hlt, hl, hw]
    refine IH (n + 1) _ _ ⟨by omega, ?_⟩ (by omega) (by simp)
    rw [List.take_add_one, List.take_add_one, hp, hea, heb, hw]
   ·have hne : ¬ a = b := by
     intro h
     subst h
     exact hw rfl
    clear IH
    by_cases h1 : (a[n]'(by omega)).num = b[n].num
    ·have h2 : ¬ (a[n]'(by omega)).args = b[n].args := fun h2 => hw (by
      cases hx : a[n]'(by omega); cases hy : b[n]
      rw [hx, hy] at h1 h2
      simp_all)
     simp (disch := omega) [if_pos, if_neg, iteK_pos, iteK_neg, hlt, hl, h1, h2, hne]
    ·have h1' : ¬ ((a[n]'(by omega)).num.toNat : Int) = (b[n].num.toNat : Int) := fun h => h1 (UInt32.toNat_inj.1 (by omega))
     simp (disch := omega) [if_pos, if_neg, iteK_pos, iteK_neg, hlt, hl, h1', hne]
  ·have hab : a = b := by
    rw [List.take_of_length_le (by omega), List.take_of_length_le (by omega)] at hp
    exact hp
   clear IH
   simp (disch := omega) [if_pos, if_neg, iteK_pos, iteK_neg, hlt, hl, hab]
 ·have hne : ¬ a = b := fun h => hl (by rw [h])
  simp (disch := omega) [if_pos, if_neg, iteK_pos, iteK_neg, Tryz.f21, hl, hne]
theorem bytesEqual (lent) (a b : List UInt8) : pureV E (om E) 37 lent [bs a, bs b] = some (bb (decide (a = b))) := by
 apply pu_37
 simp (disch := omega) [if_pos, if_neg, iteK_pos, iteK_neg, Tryz.f37]
end Go.Proofs.YtijfffbhhlmgmaaGreatDoor
end
section
namespace Go.Proofs.YtijfffbhhlmgmaaGreatDoor
open Go Go.Sim Go.Sim.Tape
set_option maxRecDepth 100000
set_option linter.unusedSimpArgs false
set_option linter.unusedVariables false

theorem nat32 {a b : UInt32} (h : ¬ a = b) : ¬ (a.toNat : Int) = (b.toNat : Int) := fun h' => h (UInt32.toNat_inj.1 (by omega))
theorem nat8 {a b : UInt8} (h : ¬ a = b) : ¬ (a.toNat : Int) = (b.toNat : Int) := fun h' => h (UInt8.toNat_inj.1 (by omega))
theorem sameWrite (lent) (x y : Wr) : pureV E (om E) 36 lent [.agg [u32V x.at_, bs x.bytes], .agg [u32V y.at_, bs y.bytes]] = some (bb (decide (x = y))) := by
 apply pu_36
 have hE := fun lent => bytesEqual lent x.bytes y.bytes
 obtain ⟨xa, xb⟩ := x
 obtain ⟨ya, yb⟩ := y
 by_cases h : xa = ya
 ·subst h
  simp (disch := omega) [if_pos, if_neg, iteK_pos, iteK_neg, Tryz.f36, hE]
 ·have h' := nat32 h
  simp (disch := omega) [if_pos, if_neg, iteK_pos, iteK_neg, Tryz.f36, h, h']
theorem EqualWr (lent) (a b : List Wr) (ha : a.length < 2 ^ 62) (hb : b.length < 2 ^ 62) : pureV E (om E) 35 lent [lst eWr a, lst eWr b, .func (.func 36) [] []] = some (bb (decide (a = b))) := by
 apply pu_35
 by_cases hl : a.length = b.length
 ·simp (disch := omega) [if_pos, if_neg, iteK_pos, iteK_neg, Tryz.f35, hl]
  refine loop_chg (dyn := []) (fun n : Nat => [(17, .int .i64 n)]) (fun _ => []) (fun _ => [])
   (fun n => n ≤ a.length ∧ a.take n = b.take n) (fun n => a.length - n) hint_35_0 (by kernel_rfl) ?_ 0 (by simp) (by simp)
  rintro n ⟨hn, hp⟩ IH
  rw [lpB_eq]
  by_cases hlt : n < b.length
  ·have hea : a[n]? = some (a[n]'(by omega)) := List.getElem?_eq_getElem (by omega)
   have heb : b[n]? = some b[n] := List.getElem?_eq_getElem hlt
   have hS := fun lent => sameWrite lent (a[n]'(by omega)) b[n]
   by_cases hw : a[n]'(by omega) = b[n]
   ·have hS' := fun lent => sameWrite lent b[n] b[n]
    simp (disch := omega) [if_pos, if_neg, iteK_pos, iteK_neg, hlt, hl, hw, hS']
    refine IH (n + 1) _ _ ⟨by omega, ?_⟩ (by omega) (by simp)
    rw [List.take_add_one, List.take_add_one, hp, hea, heb, hw]
   ·have hne : ¬ a = b := by
     intro h
     subst h
     exact hw rfl
    clear IH
    simp (disch := omega) [if_pos, if_neg, iteK_pos, iteK_neg, hlt, hl, hw, hS, hne]
  ·have hab : a = b := by
    rw [List.take_of_length_le (by omega), List.take_of_length_le (by omega)] at hp
    exact hp
   clear IH
   simp (disch := omega) [if_pos, if_neg, iteK_pos, iteK_neg, hlt, hl, hab]
 ·have hne : ¬ a = b := fun h => hl (by rw [h])
  simp (disch := omega) [if_pos, if_neg, iteK_pos, iteK_neg, Tryz.f35, hl, hne]
theorem tReply (lent) (x y : Rp) (hx : FRp x) (hy : FRp y) : pureV E (om E) 19 lent [.agg [u32V x.val, lst eWr x.writes], .agg [u32V y.val, lst eWr y.writes]] = some (bb (decide (x = y))) := by
 apply pu_19
 have h1 := hx.writes
 have h2 := hy.writes
 have hE := fun lent => EqualWr lent x.writes y.writes (by omega) (by omega)
 obtain ⟨xa, xb⟩ := x
 obtain ⟨ya, yb⟩ := y
 by_cases h : xa = ya
 ·subst h
  simp (disch := omega) [if_pos, if_neg, iteK_pos, iteK_neg, Tryz.f19, hE]
 ·have h' := nat32 h
  simp (disch := omega) [if_pos, if_neg, iteK_pos, iteK_neg, Tryz.f19, h, h']
theorem EqualRp (lent) (a b : List Rp) (ha : a.length < 2 ^ 62) (hb : b.length < 2 ^ 62) (fa : ∀ r ∈ a, FRp r) (fb : ∀ r ∈ b, FRp r) : pureV E (om E) 18 lent [lst eRp a, lst eRp b, .func (.func 19) [] []] = some (bb (decide (a = b))) := by
 apply pu_18
 by_cases hl : a.length = b.length
 ·simp (disch := omega) [if_pos, if_neg, iteK_pos, iteK_neg, Tryz.f18, hl]
  refine loop_chg (dyn := []) (fun n : Nat => [(17, .int .i64 n)]) (fun _ => []) (fun _ => [])
   (fun n => n ≤ a.length ∧ a.take n = b.take n) (fun n => a.length - n) hint_18_0 (by kernel_rfl) ?_ 0 (by simp) (by simp)
  rintro n ⟨hn, hp⟩ IH
  rw [lpB_eq]
  by_cases hlt : n < b.length
  ·have hea : a[n]? = some (a[n]'(by omega)) := List.getElem?_eq_getElem (by omega)
   have heb : b[n]? = some b[n] := List.getElem?_eq_getElem hlt
   have hS := fun lent => tReply lent (a[n]'(by omega)) b[n] (fa _ (List.getElem_mem _)) (fb _ (List.getElem_mem _))
   by_cases hw : a[n]'(by omega) = b[n]
   ·have hS' := fun lent => tReply lent b[n] b[n] (fb _ (List.getElem_mem _)) (fb _ (List.getElem_mem _))
    simp (disch := omega) [if_pos, if_neg, iteK_pos, iteK_neg, hlt, hl, hw, hS']
    refine IH (n + 1) _ _ ⟨by omega, ?_⟩ (by omega) (by simp)
    rw [List.take_add_one, List.take_add_one, hp, hea, heb, hw]
   ·have hne : ¬ a = b := by
     intro h
     subst h
     exact hw rfl
    clear IH
    simp (disch := omega) [if_pos, if_neg, iteK_pos, iteK_neg, hlt, hl, hw, hS, hne]
  ·have hab : a = b := by
    rw [List.take_of_length_le (by omega), List.take_of_length_le (by omega)] at hp
    exact hp
   clear IH
   simp (disch := omega) [if_pos, if_neg, iteK_pos, iteK_neg, hlt, hl, hab]
 ·have hne : ¬ a = b := fun h => hl (by rw [h])
  simp (disch := omega) [if_pos, if_neg, iteK_pos, iteK_neg, Tryz.f18, hl, hne]
abbrev evV (x : Ev) : V := .agg [u32V x.at_, u32V x.num, ws x.args, u32V x.val]
theorem tEvent (lent) (x y : Ev) (hx : FEv x) (hy : FEv y) : pureV E (om E) 38 lent [evV x, evV y] = some (bb (decide (x = y))) := by
 apply pu_38
 have h1 := hx.args
 have h2 := hy.args
 have hE := fun lent => EqualW lent x.args y.args (by omega) (by omega)
 obtain ⟨xa, xn, xg, xv⟩ := x
 obtain ⟨ya, yn, yg, yv⟩ := y
 by_cases h : xa = ya
 ·subst h
  by_cases h : xn = yn
  ·subst h
   by_cases h : xv = yv
   ·subst h
    simp (disch := omega) [if_pos, if_neg, iteK_pos, iteK_neg, Tryz.f38, hE]
   ·have h' := nat32 h
    simp (disch := omega) [if_pos, if_neg, iteK_pos, iteK_neg, Tryz.f38, h, h']
  ·have h' := nat32 h
   simp (disch := omega) [if_pos, if_neg, iteK_pos, iteK_neg, Tryz.f38, h, h']
 ·have h' := nat32 h
  simp (disch := omega) [if_pos, if_neg, iteK_pos, iteK_neg, Tryz.f38, h, h']
theorem rEvent (lent) (x y : Ev) (hx : FEv x) (hy : FEv y) : pureV E (om E) 41 lent [evV x, evV y] = some (bb (decide (x = y))) := by
 apply pu_41
 have h1 := hx.args
 have h2 := hy.args
 have hE := fun lent => sameWords lent x.args y.args (by omega) (by omega)
 obtain ⟨xa, xn, xg, xv⟩ := x
 obtain ⟨ya, yn, yg, yv⟩ := y
 by_cases h : xa = ya
 ·subst h
  by_cases h : xn = yn
  ·subst h
   by_cases h : xv = yv
   ·subst h
    simp (disch := omega) [if_pos, if_neg, iteK_pos, iteK_neg, Tryz.f41, hE]
   ·have h' := nat32 h
    simp (disch := omega) [if_pos, if_neg, iteK_pos, iteK_neg, Tryz.f41, h, h']
  ·have h' := nat32 h
   simp (disch := omega) [if_pos, if_neg, iteK_pos, iteK_neg, Tryz.f41, h, h']
 ·have h' := nat32 h
  simp (disch := omega) [if_pos, if_neg, iteK_pos, iteK_neg, Tryz.f41, h, h']
end Go.Proofs.YtijfffbhhlmgmaaGreatDoor
end
section
namespace Go.Proofs.YtijfffbhhlmgmaaGreatDoor
open Go Go.Sim Go.Sim.Tape
set_option maxRecDepth 100000
set_option linter.unusedSimpArgs false
set_option linter.unusedVariables false

theorem rReply (lent) (x y : Rp) (hx : FRp x) (hy : FRp y) : pureV E (om E) 40 lent [.agg [u32V x.val, lst eWr x.writes], .agg [u32V y.val, lst eWr y.writes]] = some (bb (decide (x = y))) := by
 apply pu_40
 have h1 := hx.writes
 have h2 := hy.writes
 have f1 := hx.each
 have f2 := hy.each
 obtain ⟨xv, a⟩ := x
 obtain ⟨yv, b⟩ := y
 dsimp only at h1 h2 f1 f2 ⊢
 by_cases h : xv = yv
 ·subst h
  by_cases hl : a.length = b.length
  ·simp (disch := omega) [if_pos, if_neg, iteK_pos, iteK_neg, Tryz.f40, hl]
   refine loop_chg (dyn := []) (fun n : Nat => [(5, .int .i64 n)]) (fun _ => []) (fun _ => [])
    (fun n => n ≤ a.length ∧ a.take n = b.take n) (fun n => a.length - n) hint_40_0 (by kernel_rfl) ?_ 0 (by simp) (by simp)
   rintro n ⟨hn, hp⟩ IH
   rw [lpB_eq]
   by_cases hlt : n < b.length
   ·have hlta : n < a.length := by omega
    have hea : a[n]? = some a[n] := List.getElem?_eq_getElem hlta
    have heb : b[n]? = some b[n] := List.getElem?_eq_getElem hlt
    have w1 := (f1 a[n] (List.getElem_mem _)).bytes
    have w2 := (f2 b[n] (List.getElem_mem _)).bytes
    by_cases ht : a[n].at_ = b[n].at_
    ·by_cases hb : a[n].bytes.length = b[n].bytes.length
     ·simp (disch := omega) [if_pos, if_neg, iteK_pos, iteK_neg, hlt, hl, hlta, ht, hb]
      refine loop_chg (dyn := []) (fun j : Nat => [(8, .int .i64 j)]) (fun _ => []) (fun _ => [])
       (fun j => j ≤ a[n].bytes.length ∧ a[n].bytes.take j = b[n].bytes.take j) (fun j => a[n].bytes.length - j) hint_40_1 (by kernel_rfl) ?_ 0 (by simp) (by simp)
      rintro j ⟨hj, hq⟩ IHj
      rw [lpB_eq]
      by_cases hjl : j < b[n].bytes.length
      ·have hja : j < a[n].bytes.length := by omega
       have hca : a[n].bytes[j]? = some a[n].bytes[j] := List.getElem?_eq_getElem hja
       have hcb : b[n].bytes[j]? = some b[n].bytes[j] := List.getElem?_eq_getElem hjl
       by_cases hw : a[n].bytes[j] = b[n].bytes[j]
       ·clear IH
        simp (disch := omega) [if_pos, if_neg, iteK_pos, iteK_neg, hjl, hja, hb, hw]
        refine IHj (j + 1) _ _ ⟨by omega, ?_⟩ (by omega) (by simp)
        rw [List.take_add_one, List.take_add_one, hq, hca, hcb, hw]
       ·have hne : ¬ a = b := by
         intro h
         subst h
         exact hw rfl
        have hw' := nat8 hw
        clear IH IHj
        simp (disch := omega) [if_pos, if_neg, iteK_pos, iteK_neg, hjl, hja, hb, hw', hne]
      ·have hab : a[n] = b[n] := by
        rw [List.take_of_length_le (by omega), List.take_of_length_le (by omega)] at hq
        cases hx : a[n]; cases hy : b[n]
        rw [hx, hy] at ht hq
        simp_all
       clear IHj
       simp (disch := omega) [if_pos, if_neg, iteK_pos, iteK_neg, hjl, hb]
       refine IH (n + 1) _ _ ⟨by omega, ?_⟩ (by omega) (by simp)
       rw [List.take_add_one, List.take_add_one, hp, hea, heb, hab]
     ·have hne : ¬ a = b := by
       intro h
       subst h
       exact hb rfl
      clear IH
      simp (disch := omega) [if_pos, if_neg, iteK_pos, iteK_neg, hlt, hl, hlta, ht, hb, hne]
    ·have hne : ¬ a = b := by
      intro h
      subst h
      exact ht rfl
     have ht' := nat32 ht
     clear IH
     simp (disch := omega) [if_pos, if_neg, iteK_pos, iteK_neg, hlt, hl, hlta, ht', hne]
   ·have hab : a = b := by
     rw [List.take_of_length_le (by omega), List.take_of_length_le (by omega)] at hp
     exact hp
    clear IH
    simp (disch := omega) [if_pos, if_neg, iteK_pos, iteK_neg, hlt, hl, hab]
  ·have hne : ¬ a = b := fun h => hl (by rw [h])
   simp (disch := omega) [if_pos, if_neg, iteK_pos, iteK_neg, Tryz.f40, hl, hne]
 ·have h' := nat32 h
  simp (disch := omega) [if_pos, if_neg, iteK_pos, iteK_neg, Tryz.f40, h, h']
theorem rCall (lent) (x y : Tk) (hx : FTk x) (hy : FTk y) : pureV E (om E) 22 lent [.agg (eTk.enc x), .agg (eTk.enc y)] = some (bb (callEq x y)) := by
 apply pu_22
 have a1 := hx.args
 have a2 := hy.args
 have r1 := hx.reps
 have r2 := hy.reps
 have f1 := hx.each
 have f2 := hy.each
 have hW := fun lent => sameWords lent x.args y.args (by omega) (by omega)
 obtain ⟨xk, xa, xg, xf, a, xr⟩ := x
 obtain ⟨yk, ya, yg, yf, b, yr⟩ := y
 dsimp only at a1 a2 r1 r2 f1 f2 hW ⊢
 simp only [callEq]
 by_cases h1 : xk = yk
 ·subst h1
  by_cases h2 : xa = ya
  ·subst h2
   by_cases h3 : xf = yf
   ·subst h3
    by_cases h4 : xg = yg
    ·subst h4
     by_cases hl : a.length = b.length
     ·simp (disch := omega) [if_pos, if_neg, iteK_pos, iteK_neg, Tryz.f22, hW, hl]
      refine loop_chg (dyn := []) (fun n : Nat => [(5, .int .i64 n)]) (fun _ => []) (fun _ => [])
       (fun n => n ≤ a.length ∧ a.take n = b.take n) (fun n => a.length - n) hint_22_0 (by kernel_rfl) ?_ 0 (by simp) (by simp)
      rintro n ⟨hn, hp⟩ IH
      rw [lpB_eq]
      by_cases hlt : n < b.length
      ·have hlta : n < a.length := by omega
       have hea : a[n]? = some a[n] := List.getElem?_eq_getElem hlta
       have heb : b[n]? = some b[n] := List.getElem?_eq_getElem hlt
       by_cases hw : a[n] = b[n]
       ·have hS' := fun lent => rReply lent b[n] b[n] (f2 _ (List.getElem_mem _)) (f2 _ (List.getElem_mem _))
        simp (disch := omega) [if_pos, if_neg, iteK_pos, iteK_neg, hlt, hl, hlta, hw, hS']
        refine IH (n + 1) _ _ ⟨by omega, ?_⟩ (by omega) (by simp)
        rw [List.take_add_one, List.take_add_one, hp, hea, heb, hw]
       ·have hS := fun lent => rReply lent a[n] b[n] (f1 _ (List.getElem_mem _)) (f2 _ (List.getElem_mem _))
        have hne : ¬ a = b := by
         intro h
         subst h
         exact hw rfl
        clear IH
        simp (disch := omega) [if_pos, if_neg, iteK_pos, iteK_neg, hlt, hl, hlta, hw, hS, hne]
      ·have hab : a = b := by
        rw [List.take_of_length_le (by omega), List.take_of_length_le (by omega)] at hp
        exact hp
       clear IH
       simp (disch := omega) [if_pos, if_neg, iteK_pos, iteK_neg, hlt, hl, hab]
     ·have hne : ¬ a = b := fun h => hl (by rw [h])
      simp (disch := omega) [if_pos, if_neg, iteK_pos, iteK_neg, Tryz.f22, hW, hl, hne]
    ·simp (disch := omega) [if_pos, if_neg, iteK_pos, iteK_neg, Tryz.f22, hW, h4]
   ·simp (disch := omega) [if_pos, if_neg, iteK_pos, iteK_neg, Tryz.f22, h3]
  ·have h2' := nat32 h2
   simp (disch := omega) [if_pos, if_neg, iteK_pos, iteK_neg, Tryz.f22, h2, h2']
 ·have h1' := nat8 h1
  simp (disch := omega) [if_pos, if_neg, iteK_pos, iteK_neg, Tryz.f22, h1, h1']
end Go.Proofs.YtijfffbhhlmgmaaGreatDoor
end
