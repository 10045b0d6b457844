/-
  The machine of values: a function's answers at arguments that were reckoned before, for lists in memory too.
-/
import Derived.Test.YtjmipgfaghjgmaaMe
section
namespace Go.Sim
open Go Go.RowKit
set_option linter.unusedVariables false
set_option linter.unusedSimpArgs false
def lookV : List (List V × V) → List V → Option V
  | [], _ => none
  | (key, r) :: rest, args => if eqVL args key then some r else lookV rest args
theorem lookV_mem : ∀ {tbl : List (List V × V)} {args : List V} {r : V}, lookV tbl args = some r → (args, r) ∈ tbl
  | (key, r') :: rest, args, r, h => by
    unfold lookV at h
    split at h
    · rename_i he
      obtain rfl := eqVL_eq _ _ he
      simp only [Option.some.injEq] at h
      subst h
      simp
    · exact List.mem_cons_of_mem _ (lookV_mem h)
/-- A pure function, told by a function of its arguments' contents. -/
def viewF (F : List V → Option V) (args : List V) (h : Heap) : Option (V × Heap) := (viewArgs h args).bind fun a => (F a).map fun r => (r, h)
theorem viewF_ok {E : Env} (hq : EqOk E) (hE : FnOk E (fun _ => true)) (hK : KnownOk E (fun _ => true)) (hKI : KnownIn E) {f : FuncId} (hk : E.known f = none) (hm : E.mode f = .pure) {F : List V → Option V}
    (ht : ∀ a r, F a = some r → ∀ lent, pureV E (om E) f lent a = some r) : ∀ args h r h', viewF F args h = some (r, h') → CallS E.P (fun _ => true) f args h r h' := by
  intro args h r h' hc
  unfold viewF at hc
  simp only [Option.bind_eq_some_iff, Option.map_eq_some_iff] at hc
  obtain ⟨a, ha, r', hr, h2⟩ := hc
  simp only [Prod.mk.injEq] at h2
  obtain ⟨rfl, rfl⟩ := h2
  have hcall : callV E (om E) f args h = some (r', h) := by
    rw [callV_pure hk hm, ha]
    simp only [Option.bind_some, ht _ _ hr, Option.map_some]
  obtain ⟨n, hn⟩ := Fs.fuel E (callV_fs E f args h) hcall
  exact call_sound (ev_sound hq hE hK hKI n) hE hK hn
def lookT : List (Nat × (List V → Option V)) → Nat → Option (List V → Option V)
  | [], _ => none
  | (f, F) :: r, g => if Nat.beq g f then some F else lookT r g
theorem lookT_mem : ∀ {L : List (Nat × (List V → Option V))} {g : Nat} {F : List V → Option V}, lookT L g = some F → (g, F) ∈ L
  | (f, t) :: r, g, F, h => by
    unfold lookT at h
    split at h
    · rename_i hb
      obtain rfl := Nat.eq_of_beq_eq_true hb
      simp only [Option.some.injEq] at h
      subst h
      simp
    · exact List.mem_cons_of_mem _ (lookT_mem h)
/-- The machine that takes functions' answers for known. -/
def withKnown (E : Env) (L : List (Nat × (List V → Option V))) : Env := { E with known := fun g => match lookT L g with | some F => some (viewF F) | none => E.known g }
section
variable {E : Env} {L : List (Nat × (List V → Option V))}
theorem withKnown_fnOk (hE : FnOk E (fun _ => true)) : FnOk (withKnown E L) (fun _ => true) := ⟨hE.good⟩
theorem withKnown_eqOk (hq : EqOk E) : EqOk (withKnown E L) := hq
theorem withKnown_knownOk (hq : EqOk E) (hE : FnOk E (fun _ => true)) (hK : KnownOk E (fun _ => true)) (hKI : KnownIn E)
    (ht : ∀ x ∈ L, E.known x.1 = none ∧ E.mode x.1 = .pure ∧ ∀ a r, x.2 a = some r → ∀ lent, pureV E (om E) x.1 lent a = some r) : KnownOk (withKnown E L) (fun _ => true) := by
  intro g F hF
  change (match lookT L g with | some F => some (viewF F) | none => E.known g) = some F at hF
  split at hF
  · rename_i tbl hb
    obtain rfl := Option.some.inj hF
    obtain ⟨h1, h2, h3⟩ := ht _ (lookT_mem hb)
    exact viewF_ok hq hE hK hKI h1 h2 h3
  · exact hK g F hF
theorem withKnown_knownIn (hKI : KnownIn E) (hL : ∀ x ∈ L, Enters E x.1) : KnownIn (withKnown E L) := by
  intro g F hF
  change (match lookT L g with | some F => some (viewF F) | none => E.known g) = some F at hF
  split at hF
  · rename_i tbl hb
    exact hL _ (lookT_mem hb)
  · exact hKI g F hF
theorem pure_evals {n : Nat} {f : FuncId} {lent : Bool} {args : List V} {r : V} (h : pureV E (ev E n) f lent args = some r) : pureV E (om E) f lent args = some r :=
  (pureV_fs E f lent args).mono (fun c s r hr => (om_iff E).mpr ⟨n, hr⟩) h
end
end Go.Sim
end
