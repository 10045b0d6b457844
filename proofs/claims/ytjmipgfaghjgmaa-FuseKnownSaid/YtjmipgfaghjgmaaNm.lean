/-
  FuseKnown: reckoned, with what Longest and Fits answer taken for known.
  FuseKnown, reckoned.
-/
import Derived.Test.YtjmipgfaghjgmaaNj
import Derived.Test.YtjmipgfaghjgmaaMf
import Derived.Test.YtjmipgfaghjgmaaNd
section
namespace Go.Proofs.Ytjmipgfaghjgmaa
open Go Go.Sim
set_option maxRecDepth 1000000
set_option linter.unusedSimpArgs false
set_option linter.unusedVariables false
theorem FitsBad (lent) (c : List Instr) (a e k : Nat) (ha : a < 4294967296) (he : e < 4294967296) (hl : c.length < 2 ^ 63) (h : ¬ (1 ≤ k ∧ k ≤ 15 ∧ a < e ∧ e ≤ c.length)) : pureV E (om E) 15 lent [lst eInstr c, .int .u32 a, .int .u32 e, .int .u8 k] = some (.tuple [fusedV 0 0 Shp.none, bb false]) := by
  have hL := fun lent => lies lent c a e ha he hl
  apply pu_15
  by_cases h1 : k < 1
  · simp (disch := omega) [if_pos, if_neg, iteK_pos, iteK_neg, Try.f15, h1, Shp.none]
  · by_cases h2 : 15 < k
    · simp (disch := omega) [if_pos, if_neg, iteK_pos, iteK_neg, Try.f15, h1, h2, Shp.none]
    · rw [decide_eq_false (by omega)] at hL
      simp (disch := omega) [if_pos, if_neg, iteK_pos, iteK_neg, Try.f15, h1, h2, hL, Shp.none]
def knownCode : List Instr := [⟨9, 8⟩, ⟨9, 8⟩, ⟨31, 0⟩, ⟨8, 1⟩, ⟨39, 0⟩, ⟨34, 0⟩, ⟨8, 2⟩, ⟨8, 3⟩, ⟨41, 0⟩, ⟨15, 0⟩, ⟨9, 4⟩, ⟨31, 0⟩, ⟨13, 3⟩]
def fitsK (args : List V) : Option V :=
  match args with
  | [c, .int .u32 (.ofNat a), .int .u32 (.ofNat e), .int .u8 (.ofNat k)] =>
    if eqVV c (lst eInstr knownCode) && Nat.ble e 14 then
      (if Nat.ble 1 k && Nat.ble k 15 && Nat.blt a e && Nat.ble e 13 then some (.tuple (if Nat.beq (fitsF (win knownCode a e) k).len 0 then [fusedV 0 0 Shp.none, bb false] else [fusedV a k (fitsF (win knownCode a e) k), bb true]))
      else if Nat.ble a 14 then some (.tuple [fusedV 0 0 Shp.none, bb false]) else none)
    else none
  | _ => none
theorem fitsK_ok (x : List V) (r : V) (h : fitsK x = some r) (lent : Bool) : pureV E (om E) 15 lent x = some r := by
  unfold fitsK at h
  split at h
  · rename_i c a e k
    split at h
    · rename_i h1
      simp only [Bool.and_eq_true, Nat.ble_eq] at h1
      obtain rfl := eqVV_eq _ _ h1.1
      split at h
      · rename_i h2
        simp only [Bool.and_eq_true, Nat.ble_eq, Nat.blt_eq] at h2
        have := Fits lent (c := knownCode) (a := a) (e := e) ⟨h2.1.2, h2.2, by omega, by decide⟩ k h2.1.1.1 h2.1.1.2
        rw [← h]
        refine this.trans ?_
        congr 2
        by_cases h0 : (fitsF (win knownCode a e) k).len = 0 <;> simp [h0]
      · rename_i h2
        simp only [Bool.and_eq_true, Nat.ble_eq, Nat.blt_eq] at h2
        split at h
        · rename_i h3
          have h3' := Nat.le_of_ble_eq_true h3
          rw [← h]
          exact FitsBad lent knownCode a e k (by omega) (by omega) (by decide) (by have : knownCode.length = 13 := rfl; omega)
        · cases h
    · cases h
  · cases h
end Go.Proofs.Ytjmipgfaghjgmaa
end
section
namespace Go.Proofs.Ytjmipgfaghjgmaa
open Go Go.Sim
set_option maxRecDepth 1000000
set_option linter.unusedSimpArgs false
set_option linter.unusedVariables false
def tabs : List (Nat × (List V → Option V)) := [(15, fitsK)]
noncomputable def EL : Env := withKnown E tabs
theorem fnOkL : FnOk EL (fun _ => true) := withKnown_fnOk fnOk
theorem eqOkL : EqOk EL := withKnown_eqOk eqOk
theorem knownOkL : KnownOk EL (fun _ => true) := withKnown_knownOk eqOk fnOk knownOk knownIn (by
  intro x hx
  simp only [tabs, List.mem_cons, List.not_mem_nil, or_false] at hx
  subst hx
  exact ⟨rfl, rfl, fitsK_ok⟩)
theorem knownInL : KnownIn EL := withKnown_knownIn knownIn (by
  intro x hx
  simp only [tabs, List.mem_cons, List.not_mem_nil, or_false] at hx
  subst hx
  exact ⟨Try.f15, Try.f15.body.getD .skip, Try.func15, by kernel_rfl, by simp [Try.f15]⟩)
theorem FuseKnown : pureV EL (ev EL 400) 5 false [] = some (bb true) := by kernel_rfl
end Go.Proofs.Ytjmipgfaghjgmaa
end
