/-
 What is asked of no module.
 cell.Where; where cells begin: plain.
-/
import Derived.Test.YtfplmcpkagpaiaaGreatDoorCc
set_option maxRecDepth 100000
set_option maxHeartbeats 0
set_option linter.unusedSimpArgs false
set_option linter.unusedVariables false
section
namespace Go.Proofs.YtfplmcpkagpaiaaGreatDoor.Fl
open Go Go.Sim Go.Sim.Cell
theorem eq_nilM (op : BinOp) (b : Bool) (hop : op = .eql ∧ b = true ∨ op = .neq ∧ b = false) (x y : Operand) : binO E op 33 x y .nilptr .nilptr = some (.bool b) := by
 have h : E.P.underlying 33 = some (.pointer 83) := by kernel_rfl
 rcases hop with ⟨rfl, rfl⟩ | ⟨rfl, rfl⟩
 ·show binV E .eql 33 .nilptr .nilptr = _
  unfold binV
  simp [eqV, h]
 ·show binV E .neq 33 .nilptr .nilptr = _
  unfold binV
  simp [eqV, h]
theorem NCount (lent) : pureV E (om E) 58 lent [.nilptr] = some (ii 0) := by
 have hA : pureV E (om E) 27 false [.nilptr] = some (.pcon [.nilptr, .scon [] 0 0 false, .scon [] 0 0 false, .scon [] 0 0 false, .scon [] 0 0 false, .scon [] 0 0 false, .scon [] 0 0 false, .int .u32 0, .int .u32 0, .scon [] 0 0 false, ii 0, .int .u64 0] 0) := by
  apply pu_27
  simp (disch := omega) [if_pos, if_neg, iteK_pos, iteK_neg, Tryz.f27, eq_nilM .eql true (.inl ⟨rfl, rfl⟩)]
 apply pu_58
 simp (disch := omega) [if_pos, if_neg, iteK_pos, iteK_neg, Tryz.f58, hA]
theorem NLeaders (B : List Blk) : callV E (om E) 22 [.nilptr] [B] = some (.tuple [.nilptr, ii 1], [B]) := by
 have hb : bodyV E (om E) 22 [.nilptr] [[]] = some (.tuple [.nilptr, ii 1], [[]]) := by
  apply bo_22
  simp (disch := omega) [if_pos, if_neg, iteK_pos, iteK_neg, Tryz.f22, NCount]
 rw [call_22]
 simp (disch := omega) [if_pos, if_neg, iteK_pos, iteK_neg, hb]
theorem NCheck (l : List Cl) (bg : List Nat) : pureV E (om E) 7 false [.nilptr, .agg [lst eCl l, lst eW bg]] = some (.tuple [ii 0, ii 1]) := by
 apply pu_7
 simp (disch := omega) [if_pos, if_neg, iteK_pos, iteK_neg, Tryz.f7, NLeaders]
theorem NLead : pureV E (om E) 12 false [.nilptr] = some (.tuple [.scon [] 0 0 false, ii 1]) := by
 apply pu_12
 simp (disch := omega) [if_pos, if_neg, iteK_pos, iteK_neg, Tryz.f12, NLeaders]
theorem NTranslate : pureV E (om E) 11 false [.nilptr] = some (.tuple [.agg [.scon [] 0 0 false, .scon [] 0 0 false], ii 1]) := by
 apply pu_11
 simp (disch := omega) [if_pos, if_neg, iteK_pos, iteK_neg, Tryz.f11, NLead]
end Go.Proofs.YtfplmcpkagpaiaaGreatDoor.Fl
end
section
namespace Go.Proofs.YtfplmcpkagpaiaaGreatDoor.Fl
open Go Go.Sim Go.Sim.Cell
def whereGo : List Cl → Nat → Nat → Nat × Nat × Nat
 | [], _, _ => (0, 0, 2)
 | x :: r, n, i => if x.at_ ≤ i ∧ i < x.at_ + x.len then (n, i - x.at_, 0) else whereGo r (n + 1) i
theorem CWhere (lent) (l : List Cl) (bg : List Nat) (hl : l.length ≤ 16384) (hx : ∀ y ∈ l, FC3 y) (i : Nat) (hi : i < 4294967296) :
  pureV E (om E) 13 lent [.agg [lst eCl l, lst eW bg], .int .u32 i] = some (.tuple [.int .u32 (whereGo l 0 i).1, .int .u32 (whereGo l 0 i).2.1, ii (whereGo l 0 i).2.2]) := by
 obtain ⟨R, hR⟩ : ∃ R, whereGo l 0 i = R := ⟨_, rfl⟩
 rw [hR]
 apply pu_13
 simp (disch := omega) [if_pos, if_neg, iteK_pos, iteK_neg, Tryz.f13]
 refine loop_chg (dyn := []) (fun n : Nat => [(13, ii n)]) (fun _ => []) (fun _ => []) (fun n => n ≤ l.length ∧ whereGo (l.drop n) n i = R) (fun n => l.length - n) hint_13_0 (by kernel_rfl) ?_ 0 (by simp [hR]) (by simp)
 clear hR
 rintro n ⟨hn, hR⟩ IH
 rw [lpB_eq]
 by_cases h : n < l.length
 ·have hy := hx _ (List.getElem_mem h)
  rw [List.drop_eq_getElem_cons h, whereGo] at hR
  have hgi : l[n]? = some l[n] := List.getElem?_eq_getElem h
  obtain ⟨y, hyd⟩ : ∃ y, l[n] = y := ⟨_, rfl⟩
  rw [hyd] at hR hy hgi
  obtain ⟨b1, b2, b3⟩ := hy
  by_cases k1 : y.at_ ≤ i
  ·by_cases k2 : i < y.at_ + y.len
   ·rw [if_pos ⟨k1, k2⟩] at hR
    clear IH
    simp (disch := omega) [if_pos, if_neg, iteK_pos, iteK_neg, h, hyd, k1, k2]
    subst hR
    exact ⟨rfl, by dsimp only; omega, rfl⟩
   ·rw [if_neg (by omega)] at hR
    simp (disch := omega) [if_pos, if_neg, iteK_pos, iteK_neg, h, hyd, k1, k2]
    exact IH (n + 1) _ _ ⟨by omega, hR⟩ (by omega) (by simp)
  ·rw [if_neg (by omega)] at hR
   simp (disch := omega) [if_pos, if_neg, iteK_pos, iteK_neg, h, hyd, k1]
   exact IH (n + 1) _ _ ⟨by omega, hR⟩ (by omega) (by simp)
 ·obtain rfl : n = l.length := by omega
  clear IH
  rw [List.drop_length, whereGo] at hR
  simp (disch := omega) [if_pos, if_neg, iteK_pos, iteK_neg, ← hR]
theorem where_cov {c : List Instr} {ld : Nat → Bool} {e : Nat} : ∀ (l : List Cl) (n m i k : Nat), Cov c ld l m e → (h : i < l.length) → k < l[i].len → whereGo l n (l[i].at_ + k) = (n + i, k, 0)
 | x :: r, n, m, 0, k, hc, h, hk => by
  rw [whereGo]
  simp only [List.getElem_cons_zero] at hk ⊢
  rw [if_pos ⟨by omega, by omega⟩, Nat.add_sub_cancel_left, Nat.add_zero]
 | x :: r, n, m, i + 1, k, hc, h, hk => by
  simp only [List.getElem_cons_succ] at hk ⊢
  rw [whereGo]
  have hm := (cov_mem r hc.2 _ (List.getElem_mem (show i < r.length by simpa using h))).1
  have ha := hc.1.at_
  rw [if_neg (by omega), where_cov r (n + 1) (m + x.len) i k hc.2 (by simpa using h) hk, Nat.add_right_comm, Nat.add_assoc]
theorem where_none {c : List Instr} {ld : Nat → Bool} {e : Nat} : ∀ (l : List Cl) (n m : Nat), Cov c ld l m e → whereGo l n e = (0, 0, 2)
 | [], n, m, _ => rfl
 | x :: r, n, m, hc => by
  have hl := cov_le c ld r hc.2
  have ha := hc.1.at_
  rw [whereGo, if_neg (by omega), where_none r (n + 1) _ hc.2]
theorem begGo_keep {o : List Nat} : ∀ (l : List Cl) (i x : Nat), (∀ y ∈ l, y.at_ ≠ x) → ∀ o : List Nat, (begGo l i o)[x]? = o[x]?
 | [], i, x, _, o => rfl
 | y :: r, i, x, h, o => by
  rw [begGo, begGo_keep (o := o) r (i + 1) x (fun z hz => h z (by simp [hz]))]
  exact List.getElem?_set_ne (h y (by simp))
theorem begF_cov {c : List Instr} {ld : Nat → Bool} {e : Nat} : ∀ (l : List Cl) (m n : Nat) (o : List Nat), Cov c ld l m e → (∀ y ∈ l, y.at_ < o.length) → ∀ i, (h : i < l.length) → (begGo l n o)[l[i].at_]? = some (n + i)
 | x :: r, m, n, o, hc, ho, 0, h => by
  rw [begGo]
  simp only [List.getElem_cons_zero]
  have hlt := ho x (by simp)
  rw [begGo_keep (o := o) r (n + 1) x.at_ (fun y hy => by have := (cov_mem r hc.2 y hy).1; have := hc.1.at_; have := hc.1.pos; omega)]
  rw [List.getElem?_set_self hlt, Nat.add_zero]
 | x :: r, m, n, o, hc, ho, i + 1, h => by
  rw [begGo]
  simp only [List.getElem_cons_succ]
  rw [begF_cov r (m + x.len) (n + 1) (o.set x.at_ n) hc.2 (fun y hy => by rw [List.length_set]; exact ho y (by simp [hy])) i (by simpa using h), Nat.add_right_comm, Nat.add_assoc]
theorem row_begins {c : List Instr} {e : Nat} (hg : ∀ i ∈ c, insBad i = 0) (he : e ≤ c.length) {a : Nat} (h : a < e) : ∃ y r, rowL c e (e - a) a = y :: r ∧ y.at_ = a := by
 cases hr : longF (win c a e) with
 | ok p => exact ⟨_, _, rowL_cons he h hr, rfl⟩
 | error x => exact absurd (hg _ (List.getElem_mem _)) (longF_err h he hr).1
theorem rows_begin {c : List Instr} (hg : ∀ i ∈ c, insBad i = 0) : ∀ (L : List Nat), L.Pairwise (· < ·) → (∀ y ∈ L, y < c.length) → ∀ a ∈ L, ∃ y ∈ rowsL c L, y.at_ = a
 | b :: r, hr, hb, a, ha => by
  rw [rowsL]
  have hr' := List.pairwise_cons.1 hr
  rcases List.mem_cons.1 ha with h | h
  ·subst h
   have hlt : a < r.headD c.length ∧ r.headD c.length ≤ c.length := by
    cases r with
    | nil => exact ⟨hb a (by simp), Nat.le_refl _⟩
    | cons d r => exact ⟨hr'.1 d (by simp), Nat.le_of_lt (hb d (by simp))⟩
   obtain ⟨y, s, h1, h2⟩ := row_begins hg hlt.2 hlt.1
   exact ⟨y, by rw [h1]; simp, h2⟩
  ·obtain ⟨y, h1, h2⟩ := rows_begin hg r hr'.2 (fun y hy => hb y (by simp [hy])) a h
   exact ⟨y, by simp [h1], h2⟩
end Go.Proofs.YtfplmcpkagpaiaaGreatDoor.Fl
end
