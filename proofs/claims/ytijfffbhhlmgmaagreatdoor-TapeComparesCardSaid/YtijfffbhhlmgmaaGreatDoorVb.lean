/-
 How two results differ: tape.results, the document's Results.
 How two results differ: the document's Results.
 How two tapes differ: the document's Compare.
-/
import Derived.Test.YtijfffbhhlmgmaaGreatDoorVa
import Derived.Test.YtijfffbhhlmgmaaGreatDoorMt
section
namespace Go.Proofs.YtijfffbhhlmgmaaGreatDoor
open Go Go.Sim Go.Sim.Tape
set_option maxRecDepth 100000
set_option maxHeartbeats 0
set_option linter.unusedSimpArgs false
set_option linter.unusedVariables false

abbrev rsV (x : Rs) : V := .agg [u8V x.fin, u32V x.at_, u32V x.val, u8V x.fault, .int .i64 x.used, .int .i64 x.nrep, lst eEv x.events, u32V x.ask.at_, u32V x.ask.num, ws x.ask.args, u32V x.ask.val]
abbrev pe (p : Nat × Nat) : V := .tuple [.int .u8 p.1, ii p.2]
theorem tResults (lent) (x y : Rs) (hx : FRs x) (hy : FRs y) : pureV E (om E) 20 lent [rsV x, rsV y] = some (pe (resF x y)) := by
 apply pu_20
 have e1 := hx.events
 have e2 := hy.events
 have f1 := hx.each
 have f2 := hy.each
 have hA := fun lent => tEvent lent x.ask y.ask hx.ask hy.ask
 obtain ⟨xe, xa, xv, xf, xu, xr, a, xk⟩ := x
 obtain ⟨ye, ya, yv, yf, yu, yr, b, yk⟩ := y
 dsimp only at e1 e2 f1 f2 hA ⊢
 simp only [resF]
 by_cases h1 : xe = ye
 ·subst h1
  by_cases h2 : xa = ya
  ·subst h2
   by_cases h3 : xv = yv
   ·subst h3
    by_cases h4 : xf = yf
    ·subst h4
     by_cases h5 : xu = yu
     ·subst h5
      by_cases h6 : xr = yr
      ·subst h6
       simp (disch := omega) [if_pos, if_neg, iteK_pos, iteK_neg, Tryz.f20]
       refine loop_chg (dyn := []) (fun n : Nat => [(53, .int .i64 n)]) (fun _ => []) (fun _ => [])
        (fun n => n ≤ a.length ∧ n ≤ b.length ∧ a.take n = b.take n) (fun n => a.length - n) hint_20_0 (by kernel_rfl) ?_ 0 (by simp) (by simp)
       rintro n ⟨hna, hnb, hp⟩ IH
       rw [lpB_eq]
       by_cases hla : n < a.length
       ·by_cases hlb : n < b.length
        ·have hea : a[n]? = some a[n] := List.getElem?_eq_getElem hla
         have heb : b[n]? = some b[n] := List.getElem?_eq_getElem hlb
         have hS := fun lent => tEvent lent a[n] b[n] (f1 _ (List.getElem_mem _)) (f2 _ (List.getElem_mem _))
         by_cases hw : a[n] = b[n]
         ·have hS' := fun lent => tEvent lent b[n] b[n] (f2 _ (List.getElem_mem _)) (f2 _ (List.getElem_mem _))
          simp (disch := omega) [if_pos, if_neg, iteK_pos, iteK_neg, hla, hlb, hw, hS']
          refine IH (n + 1) _ _ ⟨by omega, by omega, ?_⟩ (by omega) (by simp)
          rw [List.take_add_one, List.take_add_one, hp, hea, heb, hw]
         ·have hne : ¬ a = b := by
           intro h
           subst h
           exact hw rfl
          have hc := comm_at n hp hna hnb fun _ _ => hw
          clear IH
          simp (disch := omega) [if_pos, if_neg, iteK_pos, iteK_neg, hla, hlb, hw, hS, hne, hc]
        ·obtain rfl : n = b.length := by omega
         have hne : ¬ a = b := by
          intro h
          subst h
          omega
         have hc := comm_at b.length hp hna hnb fun _ h2 => absurd h2 (by omega)
         clear IH
         simp (disch := omega) [if_pos, if_neg, iteK_pos, iteK_neg, hla, hlb, hne, hc]
       ·obtain rfl : n = a.length := by omega
        by_cases hlb : a.length < b.length
        ·have hne : ¬ a = b := by
          intro h
          subst h
          omega
         have hc := comm_at a.length hp hna hnb fun h1 _ => absurd h1 (by omega)
         clear IH
         simp (disch := omega) [if_pos, if_neg, iteK_pos, iteK_neg, hla, hlb, hne, hc]
        ·have hab : a = b := by
          rw [List.take_of_length_le (by omega), List.take_of_length_le (by omega)] at hp
          exact hp
         subst hab
         clear IH
         by_cases hk : xk = yk
         ·subst hk
          simp (disch := omega) [if_pos, if_neg, iteK_pos, iteK_neg, hA]
         ·simp (disch := omega) [if_pos, if_neg, iteK_pos, iteK_neg, hA, hk]
      ·simp (disch := omega) [if_pos, if_neg, iteK_pos, iteK_neg, Tryz.f20, h6]
     ·simp (disch := omega) [if_pos, if_neg, iteK_pos, iteK_neg, Tryz.f20, h5]
    ·have h' := nat8 h4
     simp (disch := omega) [if_pos, if_neg, iteK_pos, iteK_neg, Tryz.f20, h4, h']
   ·have h' := nat32 h3
    simp (disch := omega) [if_pos, if_neg, iteK_pos, iteK_neg, Tryz.f20, h3, h']
  ·have h' := nat32 h2
   simp (disch := omega) [if_pos, if_neg, iteK_pos, iteK_neg, Tryz.f20, h2, h']
 ·have h' := nat8 h1
  simp (disch := omega) [if_pos, if_neg, iteK_pos, iteK_neg, Tryz.f20, h1, h']
end Go.Proofs.YtijfffbhhlmgmaaGreatDoor
end
section
namespace Go.Proofs.YtijfffbhhlmgmaaGreatDoor
open Go Go.Sim Go.Sim.Tape
set_option maxRecDepth 100000
set_option maxHeartbeats 0
set_option linter.unusedSimpArgs false
set_option linter.unusedVariables false

theorem rResults (lent) (x y : Rs) (hx : FRs x) (hy : FRs y) : pureV E (om E) 23 lent [rsV x, rsV y] = some (pe (resF x y)) := by
 apply pu_23
 have e1 := hx.events
 have e2 := hy.events
 have f1 := hx.each
 have f2 := hy.each
 have hA := fun lent => rEvent lent x.ask y.ask hx.ask hy.ask
 obtain ⟨xe, xa, xv, xf, xu, xr, a, xk⟩ := x
 obtain ⟨ye, ya, yv, yf, yu, yr, b, yk⟩ := y
 dsimp only at e1 e2 f1 f2 hA ⊢
 simp only [resF]
 by_cases h1 : xe = ye
 ·subst h1
  by_cases h2 : xa = ya
  ·subst h2
   by_cases h3 : xv = yv
   ·subst h3
    by_cases h4 : xf = yf
    ·subst h4
     by_cases h5 : xu = yu
     ·subst h5
      by_cases h6 : xr = yr
      ·subst h6
       simp (disch := omega) [if_pos, if_neg, iteK_pos, iteK_neg, Tryz.f23]
       refine loop_chg (dyn := []) (fun n : Nat => [(6, .int .i64 n)]) (fun _ => []) (fun _ => [])
        (fun n => n ≤ a.length ∧ n ≤ b.length ∧ a.take n = b.take n) (fun n => a.length - n) hint_23_0 (by kernel_rfl) ?_ 0 (by simp) (by simp)
       rintro n ⟨hna, hnb, hp⟩ IH
       rw [lpB_eq]
       by_cases hla : n < a.length
       ·by_cases hlb : n < b.length
        ·have hea : a[n]? = some a[n] := List.getElem?_eq_getElem hla
         have heb : b[n]? = some b[n] := List.getElem?_eq_getElem hlb
         have hS := fun lent => rEvent lent a[n] b[n] (f1 _ (List.getElem_mem _)) (f2 _ (List.getElem_mem _))
         by_cases hw : a[n] = b[n]
         ·have hS' := fun lent => rEvent lent b[n] b[n] (f2 _ (List.getElem_mem _)) (f2 _ (List.getElem_mem _))
          simp (disch := omega) [if_pos, if_neg, iteK_pos, iteK_neg, hla, hlb, hw, hS']
          refine IH (n + 1) _ _ ⟨by omega, by omega, ?_⟩ (by omega) (by simp)
          rw [List.take_add_one, List.take_add_one, hp, hea, heb, hw]
         ·have hne : ¬ a = b := by
           intro h
           subst h
           exact hw rfl
          have hc := comm_at n hp hna hnb fun _ _ => hw
          clear IH
          simp (disch := omega) [if_pos, if_neg, iteK_pos, iteK_neg, hla, hlb, hw, hS, hne, hc]
        ·obtain rfl : n = b.length := by omega
         have hne : ¬ a = b := by
          intro h
          subst h
          omega
         have hc := comm_at b.length hp hna hnb fun _ h2 => absurd h2 (by omega)
         clear IH
         simp (disch := omega) [if_pos, if_neg, iteK_pos, iteK_neg, hla, hlb, hne, hc]
       ·obtain rfl : n = a.length := by omega
        by_cases hlb : a.length < b.length
        ·have hne : ¬ a = b := by
          intro h
          subst h
          omega
         have hc := comm_at a.length hp hna hnb fun h1 _ => absurd h1 (by omega)
         clear IH
         simp (disch := omega) [if_pos, if_neg, iteK_pos, iteK_neg, hla, hlb, hne, hc]
        ·have hab : a = b := by
          rw [List.take_of_length_le (by omega), List.take_of_length_le (by omega)] at hp
          exact hp
         subst hab
         clear IH
         by_cases hk : xk = yk
         ·subst hk
          simp (disch := omega) [if_pos, if_neg, iteK_pos, iteK_neg, hA]
         ·simp (disch := omega) [if_pos, if_neg, iteK_pos, iteK_neg, hA, hk]
      ·simp (disch := omega) [if_pos, if_neg, iteK_pos, iteK_neg, Tryz.f23, h6]
     ·simp (disch := omega) [if_pos, if_neg, iteK_pos, iteK_neg, Tryz.f23, h5]
    ·have h' := nat8 h4
     simp (disch := omega) [if_pos, if_neg, iteK_pos, iteK_neg, Tryz.f23, h4, h']
   ·have h' := nat32 h3
    simp (disch := omega) [if_pos, if_neg, iteK_pos, iteK_neg, Tryz.f23, h3, h']
  ·have h' := nat32 h2
   simp (disch := omega) [if_pos, if_neg, iteK_pos, iteK_neg, Tryz.f23, h2, h']
 ·have h' := nat8 h1
  simp (disch := omega) [if_pos, if_neg, iteK_pos, iteK_neg, Tryz.f23, h1, h']
end Go.Proofs.YtijfffbhhlmgmaaGreatDoor
end
section
namespace Go.Proofs.YtijfffbhhlmgmaaGreatDoor
open Go Go.Sim Go.Sim.Tape
set_option maxRecDepth 100000
set_option maxHeartbeats 0
set_option linter.unusedSimpArgs false
set_option linter.unusedVariables false

abbrev dfV (p : Nat × Nat × Nat) : V := .agg [.int .u8 p.1, ii p.2.1, ii p.2.2]
theorem nat64 {a b : UInt64} (h : ¬ a = b) : ¬ (a.toNat : Int) = (b.toNat : Int) := fun h' => h (UInt64.toNat_inj.1 (by omega))
@[simp high] theorem loadN_res (l : List Tk) (i : Nat) : loadN (cat eTk l) (i * 16 + 5) 11 = (l[i]?).map fun x => [u8V x.res.fin, u32V x.res.at_, u32V x.res.val, u8V x.res.fault, .int .i64 x.res.used, .int .i64 x.res.nrep, lst eEv x.res.events, u32V x.res.ask.at_, u32V x.res.ask.num, ws x.res.ask.args, u32V x.res.ask.val] := by
 have hg : ∀ f, f < 16 → (cat eTk l)[i * 16 + f]? = (l[i]?).bind fun x => (eTk.enc x)[f]? := fun f hf => cat_get eTk l i f hf
 cases hl : l[i]? with
 | none =>
  have h5 := hg 5 (by omega)
  rw [hl] at h5
  rw [show (11 : Nat) = 10 + 1 from rfl, loadN_succ, h5]; rfl
 | some x =>
  have h : ∀ f v, f < 16 → (eTk.enc x)[f]? = some v → (cat eTk l)[i * 16 + f]? = some v := fun f v hf hv => by rw [hg f hf, hl]; exact hv
  have h5 := h 5 _ (by omega) rfl
  have h6 := h 6 _ (by omega) rfl
  have h7 := h 7 _ (by omega) rfl
  have h8 := h 8 _ (by omega) rfl
  have h9 := h 9 _ (by omega) rfl
  have h10 := h 10 _ (by omega) rfl
  have h11 := h 11 _ (by omega) rfl
  have h12 := h 12 _ (by omega) rfl
  have h13 := h 13 _ (by omega) rfl
  have h14 := h 14 _ (by omega) rfl
  have h15 := h 15 _ (by omega) rfl
  simp only [loadN, Nat.add_assoc, Nat.reduceAdd, h5, h6, h7, h8, h9, h10, h11, h12, h13, h14, h15, Option.bind_some, Option.map_some]
theorem rCompare (lent) (x y : Tp) (hx : FTp x) (hy : FTp y) : pureV E (om E) 9 lent [tpV x, tpV y] = some (dfV (cmpF x y)) := by
 apply pu_9
 have g1 := hx.grants
 have g2 := hy.grants
 have t1 := hx.takes
 have t2 := hy.takes
 have f1 := hx.each
 have f2 := hy.each
 have hG := fun lent => sameGrants lent x.grants y.grants (by omega) (by omega)
 obtain ⟨xm, xg, a⟩ := x
 obtain ⟨ym, yg, b⟩ := y
 dsimp only at g1 g2 t1 t2 f1 f2 hG ⊢
 simp only [cmpF, tpV]
 by_cases h1 : xm = ym
 ·subst h1
  by_cases h2 : xg = yg
  ·subst h2
   simp (disch := omega) [if_pos, if_neg, iteK_pos, iteK_neg, Tryz.f9, hG]
   refine loop_chg (dyn := []) (fun n : Nat => [(5, .int .i64 n)]) (fun _ => []) (fun _ => [])
    (fun n => n ≤ a.length ∧ n ≤ b.length ∧ cmpTakes a b 0 = cmpTakes (a.drop n) (b.drop n) n) (fun n => a.length - n) hint_9_0 (by kernel_rfl) ?_ 0 (by simp) (by simp)
   rintro n ⟨hna, hnb, hp⟩ IH
   rw [lpB_eq]
   by_cases hlt : n < a.length ∧ n < b.length
   ·obtain ⟨hla, hlb⟩ := hlt
    rw [cmp_step hla hlb] at hp
    have hC := fun lent => rCall lent a[n] b[n] (f1 _ (List.getElem_mem _)) (f2 _ (List.getElem_mem _))
    have hR := fun lent => rResults lent a[n].res b[n].res (f1 _ (List.getElem_mem _)).res (f2 _ (List.getElem_mem _)).res
    simp only [eTk_enc] at hC
    have hr9 := resF_lt a[n].res b[n].res
    by_cases hc : callEq a[n] b[n] = true
    ·rw [if_pos hc] at hp
     by_cases hr : (resF a[n].res b[n].res).1 = 0
     ·rw [if_pos hr] at hp
      simp (disch := omega) [if_pos, if_neg, iteK_pos, iteK_neg, hla, hlb, hC, hc, hR, hr]
      refine IH (n + 1) _ _ ⟨by omega, by omega, hp⟩ (by omega) (by simp)
     ·rw [if_neg hr] at hp
      clear IH
      have hr' : ¬ (((resF a[n].res b[n].res).1 : Nat) : Int) = 0 := by omega
      simp (disch := omega) [if_pos, if_neg, iteK_pos, iteK_neg, hla, hlb, hC, hc, hR, hr', hp]
    ·have hc : callEq a[n] b[n] = false := by simpa using hc
     rw [hc] at hp
     clear IH
     simp (disch := omega) [if_pos, if_neg, iteK_pos, iteK_neg, hla, hlb, hC, hc, hp]
   ·have he := cmp_end (a := a) (b := b) (n := n) (by omega)
    rw [he] at hp
    clear IH
    by_cases he2 : a.length = b.length
    ·rw [if_pos he2] at hp
     obtain rfl : n = a.length := by omega
     simp (disch := omega) [if_pos, if_neg, iteK_pos, iteK_neg, hp, he2]
    ·rw [if_neg he2] at hp
     rcases Nat.lt_or_ge n a.length with hl | hl
     ·obtain rfl : n = b.length := by omega
      simp (disch := omega) [if_pos, if_neg, iteK_pos, iteK_neg, hl, hp, he2]
     ·obtain rfl : n = a.length := by omega
      simp (disch := omega) [if_pos, if_neg, iteK_pos, iteK_neg, hp, he2]
  ·simp (disch := omega) [if_pos, if_neg, iteK_pos, iteK_neg, Tryz.f9, hG, h2]
 ·have h' := nat64 h1
  simp (disch := omega) [if_pos, if_neg, iteK_pos, iteK_neg, Tryz.f9, h1, h']
end Go.Proofs.YtijfffbhhlmgmaaGreatDoor
end
