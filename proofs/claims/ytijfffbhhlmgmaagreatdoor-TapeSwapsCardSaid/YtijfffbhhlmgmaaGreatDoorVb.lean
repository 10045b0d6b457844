/-
  How two results differ: tape.results, the document's Results.
  How two results differ: the document's Results.
  How two tapes differ: the document's Compare.
-/
import Derived.Test.YtijfffbhhlmgmaaGreatDoorVa
import Derived.Test.YtijfffbhhlmgmaaGreatDoorMt
section
namespace Go.Proofs.YtijfffbhhlmgmaaGreatDoor
open Go Go.Sim Go.Sim.Tape
set_option maxRecDepth 100000
set_option maxHeartbeats 0
set_option linter.unusedSimpArgs false
set_option linter.unusedVariables false

abbrev rsV (x : Rs) : V := .agg [u8V x.fin, u32V x.at_, u32V x.val, u8V x.fault, .int .i64 x.used, .int .i64 x.nrep, lst eEv x.events, u32V x.ask.at_, u32V x.ask.num, ws x.ask.args, u32V x.ask.val]
abbrev pe (p : Nat × Nat) : V := .tuple [.int .u8 p.1, ii p.2]
theorem tResults (lent) (x y : Rs) (hx : FRs x) (hy : FRs y) : pureV E (om E) 20 lent [rsV x, rsV y] = some (pe (resF x y)) := by
  apply pu_20
  have e1 := hx.events
  have e2 := hy.events
  have f1 := hx.each
  have f2 := hy.each
  have hA := fun lent => tEvent lent x.ask y.ask hx.ask hy.ask
  obtain ⟨xe, xa, xv, xf, xu, xr, a, xk⟩ := x
  obtain ⟨ye, ya, yv, yf, yu, yr, b, yk⟩ := y
  dsimp only at e1 e2 f1 f2 hA ⊢
  simp only [resF]
  by_cases h1 : xe = ye
  · subst h1
    by_cases h2 : xa = ya
    · subst h2
      by_cases h3 : xv = yv
      · subst h3
        by_cases h4 : xf = yf
        · subst h4
          by_cases h5 : xu = yu
          · subst h5
            by_cases h6 : xr = yr
            · subst h6
              simp (disch := omega) [if_pos, if_neg, iteK_pos, iteK_neg, Tryz.f20]
              refine loop_chg (dyn := []) (fun n : Nat => [(53, .int .i64 n)]) (fun _ => []) (fun _ => [])
                (fun n => n ≤ a.length ∧ n ≤ b.length ∧ a.take n = b.take n) (fun n => a.length - n) hint_20_0 (by kernel_rfl) ?_ 0 (by simp) (by simp)
              rintro n ⟨hna, hnb, hp⟩ IH
              rw [lpB_eq]
              by_cases hla : n < a.length
              · by_cases hlb : n < b.length
                · have hea : a[n]? = some a[n] := List.getElem?_eq_getElem hla
                  have heb : b[n]? = some b[n] := List.getElem?_eq_getElem hlb
                  have hS := fun lent => tEvent lent a[n] b[n] (f1 _ (List.getElem_mem _)) (f2 _ (List.getElem_mem _))
                  by_cases hw : a[n] = b[n]
                  · have hS' := fun lent => tEvent lent b[n] b[n] (f2 _ (List.getElem_mem _)) (f2 _ (List.getElem_mem _))
                    simp (disch := omega) [if_pos, if_neg, iteK_pos, iteK_neg, hla, hlb, hw, hS']
                    refine IH (n + 1) _ _ ⟨by omega, by omega, ?_⟩ (by omega) (by simp)
                    rw [List.take_add_one, List.take_add_one, hp, hea, heb, hw]
                  · have hne : ¬ a = b := by
                      intro h
                      subst h
                      exact hw rfl
                    have hc := comm_at n hp hna hnb fun _ _ => hw
                    clear IH
                    simp (disch := omega) [if_pos, if_neg, iteK_pos, iteK_neg, hla, hlb, hw, hS, hne, hc]
                · obtain rfl : n = b.length := by omega
                  have hne : ¬ a = b := by
                    intro h
                    subst h
                    omega
                  have hc := comm_at b.length hp hna hnb fun _ h2 => absurd h2 (by omega)
                  clear IH
                  simp (disch := omega) [if_pos, if_neg, iteK_pos, iteK_neg, hla, hlb, hne, hc]
              · obtain rfl : n = a.length := by omega
                by_cases hlb : a.length < b.length
                · have hne : ¬ a = b := by
                    intro h
                    subst h
                    omega
                  have hc := comm_at a.length hp hna hnb fun h1 _ => absurd h1 (by omega)
                  clear IH
                  simp (disch := omega) [if_pos, if_neg, iteK_pos, iteK_neg, hla, hlb, hne, hc]
                · have hab : a = b := by
                    rw [List.take_of_length_le (by omega), List.take_of_length_le (by omega)] at hp
                    exact hp
                  subst hab
                  clear IH
                  by_cases hk : xk = yk
                  · subst hk
                    simp (disch := omega) [if_pos, if_neg, iteK_pos, iteK_neg, hA]
                  · simp (disch := omega) [if_pos, if_neg, iteK_pos, iteK_neg, hA, hk]
            · simp (disch := omega) [if_pos, if_neg, iteK_pos, iteK_neg, Tryz.f20, h6]
          · simp (disch := omega) [if_pos, if_neg, iteK_pos, iteK_neg, Tryz.f20, h5]
        · have h' := nat8 h4
          simp (disch := omega) [if_pos, if_neg, iteK_pos, iteK_neg, Tryz.f20, h4, h']
      · have h' := nat32 h3
        simp (disch := omega) [if_pos, if_neg, iteK_pos, iteK_neg, Tryz.f20, h3, h']
    · have h' := nat32 h2
      simp (disch := omega) [if_pos, if_neg, iteK_pos, iteK_neg, Tryz.f20, h2, h']
  · have h' := nat8 h1
    simp (disch := omega) [if_pos, if_neg, iteK_pos, iteK_neg, Tryz.f20, h1, h']
end Go.Proofs.YtijfffbhhlmgmaaGreatDoor
end
section
namespace Go.Proofs.YtijfffbhhlmgmaaGreatDoor
open Go Go.Sim Go.Sim.Tape
set_option maxRecDepth 100000
set_option maxHeartbeats 0
set_option linter.unusedSimpArgs false
set_option linter.unusedVariables false

end Go.Proofs.YtijfffbhhlmgmaaGreatDoor
end
section
namespace Go.Proofs.YtijfffbhhlmgmaaGreatDoor
open Go Go.Sim Go.Sim.Tape
set_option maxRecDepth 100000
set_option maxHeartbeats 0
set_option linter.unusedSimpArgs false
set_option linter.unusedVariables false

abbrev dfV (p : Nat × Nat × Nat) : V := .agg [.int .u8 p.1, ii p.2.1, ii p.2.2]
theorem nat64 {a b : UInt64} (h : ¬ a = b) : ¬ (a.toNat : Int) = (b.toNat : Int) := fun h' => h (UInt64.toNat_inj.1 (by omega))
end Go.Proofs.YtijfffbhhlmgmaaGreatDoor
end
