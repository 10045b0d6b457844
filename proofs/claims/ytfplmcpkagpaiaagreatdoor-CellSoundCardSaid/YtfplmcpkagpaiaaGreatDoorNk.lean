/-
 TrailingZeros64: the place of the lowest bit, whatever the word: it reads a table that a variable holds.
 What the machine of values takes for known is so; what it asks of the program's functions. Printed by program.
-/
import Derived.Test.YtfplmcpkagpaiaaGreatDoorNe
import Derived.Test.YtfplmcpkagpaiaaGreatDoorMe
import Derived.WalkKit
import Derived.ProofKit
import Derived.Test.YtfplmcpkagpaiaaGreatDoorNh
import Derived.Test.YtfplmcpkagpaiaaGreatDoorNf
set_option maxRecDepth 100000
set_option linter.unusedSimpArgs false
set_option linter.unusedVariables false
section
namespace Go.Proofs.YtfplmcpkagpaiaaGreatDoor
open Go Go.Sim Go.Sim.Kr
def pM (ops : Array Oper) : Bool := match ops.toList with
 | [a, b] => (match a.op, b.op with | .ready g, .waits g' => !(Nat.beq g 0 && Nat.beq g' 0) | _, _ => true)
 | _ => true
theorem pM_mark {g : Nat} (h : pM (markOps g) = false) : g = 0 := by
 simp only [pM, markOps, Bool.not_eq_false', Bool.and_eq_true] at h
 exact Nat.eq_of_beq_eq_true h.1
noncomputable def EZ : Env := { P := Tryz.prog, mode := fun _ => .pure, hint := fun _ _ => [], known := fun _ => none, eqTypes := [] }
@[simp] theorem EZ_P : EZ.P = Tryz.prog := rfl
theorem mok0 : Tk EZ pM where
 eq := by intro t ht; cases ht
 fn := ⟨by
  intro g F hg hF
  exact absurd hg Bool.false_ne_true, by
  have h : (Tryz.prog.funcs.toList.all fun fn => match fn.body with | none => true | some c => goodCode pM c && !(fn.name == "runtime.NumGoroutine")) = true := by kernel_rfl
  intro f fn c hf h1 h2
  have := List.all_eq_true.1 h fn (Array.mem_toList_iff.2 (Array.mem_of_getElem? h1))
  rw [h2] at this
  simpa using this⟩
 kn := by intro f F hF; cases hF
 ki := by intro f F hF; cases hF
def tzIdx (k : Nat) : Nat := Nat.div (Nat.mod (Nat.mul 285870213051353865 (Nat.pow 2 k)) 18446744073709551616) 288230376151711744
def tbN : List Nat := [0, 1, 56, 2, 57, 49, 28, 3, 61, 58, 42, 50, 38, 29, 17, 4, 62, 47, 59, 36, 45, 43, 51, 22, 53, 39, 33, 30, 24, 18, 12, 5, 63, 55, 48, 27, 60, 41, 37, 16, 46, 35, 44, 21, 52, 32, 23, 11, 54, 26, 40, 15, 34, 20, 31, 10, 25, 14, 19, 9, 13, 8, 7, 6]
theorem tab_tz : ((List.range 64).all fun k => Nat.blt (tzIdx k) 64 && Nat.beq (tbN.getD (tzIdx k) 99) k) = true := by kernel_rfl
theorem tb_eq : tb64 = tbN.map fun n => .int .u8 (Int.ofNat n) := rfl
theorem tab_tz_at {k : Nat} (h : k < 64) : tb64[tzIdx k]? = some (.int .u8 (k : Int)) ∧ tzIdx k < 64 := by
 have := List.all_eq_true.1 tab_tz k (List.mem_range.2 h)
 simp only [Bool.and_eq_true, Nat.blt_eq] at this
 obtain ⟨h1, h2⟩ := this
 have h2 := Nat.eq_of_beq_eq_true h2
 refine ⟨?_, h1⟩
 rw [tb_eq, List.getElem?_map]
 rw [List.getD_eq_getElem?_getD] at h2
 have h3 : tzIdx k < tbN.length := h1
 rw [List.getElem?_eq_getElem h3] at h2 ⊢
 simp only [Option.getD_some] at h2
 rw [h2]; rfl
theorem tzIdx_eq (k : Nat) : tzIdx k = 285870213051353865 * 2 ^ k % 18446744073709551616 / 288230376151711744 := by
 unfold tzIdx
 simp only [Nat.mul_eq, Nat.pow_eq]
 rfl
theorem neg_wrap {m : Nat} (h0 : m ≠ 0) (hm : m < 18446744073709551616) : IntKind.u64.wrap (-(m : Int)) = ((18446744073709551616 - m : Nat) : Int) := by rw [IntKind.wrap_u64]; omega
theorem and_neg {m : Nat} (h0 : m ≠ 0) (hm : m < 18446744073709551616) : andI 64 (m : Int) (IntKind.u64.wrap (-(m : Int))) = ((2 ^ Tz.tz m : Nat) : Int) := by
 have h1 := Tz.and_neg h0 hm
 rw [neg_wrap h0 hm, ← h1]
 unfold andI
 rw [BitVec.toNat_and, BitVec.ofInt_natCast, BitVec.ofInt_natCast, BitVec.toNat_ofNat, BitVec.toNat_ofNat, Nat.mod_eq_of_lt hm, Nat.mod_eq_of_lt (by omega)]
theorem idx_of {K : Nat} (hk : K < 64) {x : Int} (hx : x = ((2 ^ K : Nat) : Int)) : (IntKind.u64.wrap (IntKind.u64.wrap x * 285870213051353865)).fdiv 288230376151711744 = (tzIdx K : Int) := by
 have hk : 2 ^ K < 18446744073709551616 := Nat.lt_of_le_of_lt (Nat.pow_le_pow_right (by omega) (show K ≤ 63 by omega)) (by decide)
 subst hx
 rw [tzIdx_eq]
 generalize 2 ^ K = Q at *
 rw [IntKind.wrap_u64, IntKind.wrap_u64, Int.fdiv_eq_ediv_of_nonneg _ (by omega)]
 omega
theorem tzBody0 (h : Heap) : bodyV EZ (evG EZ 0 12) 71 [.int .u64 ((0 : Nat) : Int)] h = some (.int .i64 (Tz.tz 0 : Int), h) := by kernel_rfl
theorem tzBody1 {m I K : Nat} (h0 : ¬ m = 0) (h3 : tb64[I]? = some (.int .u8 (K : Int))) (h4 : I < 64) (h2 : K < 64) (hI : (IntKind.u64.wrap (IntKind.u64.wrap (andI 64 (m : Int) (IntKind.u64.wrap (-(m : Int)))) * 285870213051353865)).fdiv 288230376151711744 = (I : Int)) (h : Heap) : bodyV EZ (evG EZ 0 12) 71 [.int .u64 (m : Int)] h = some (.int .i64 (K : Int), h) := by
 have hl : ∀ X : Heap, X.load (.pcon tb64 I) 1 = some [.int .u8 (K : Int)] := fun X => by
  unfold Heap.load
  simp [h3]
 have h5 : (I : Int) < 64 := by omega
 refine bodyG3 (n := 0) (E := EZ) (s0 := ?s0) (s1 := ?s1) (s3 := ?s3) (l := [.int .i64 (K : Int)]) rfl Tryz.func71 (by unfold Tryz.f71; rfl) rfl rfl rfl ?a ?b ?c ?d ?e ?f ?g
 case a =>
  rw [Tryz.ntmps71]
  simp (disch := omega) [opsN, opV, evalG, evalT, putT]
  rfl
 case b =>
  simp (disch := omega) [opsN, opV, evalG, evalT, putT, h0]
  rfl
 case c => rfl
 case d =>
  refine opsN_step (v := .int .u64 (m : Int)) (h := h) (by simp (disch := omega) [opV, evalG, evalT, putT, hI, h5, EZ_P, loadV, hl, convertV]) ?_
  dsimp only [putT, List.set]
  refine opsN_step (v := .int .u64 (m : Int)) (h := h) (by simp (disch := omega) [opV, evalG, evalT, putT, hI, h5, EZ_P, loadV, hl, convertV]) ?_
  dsimp only [putT, List.set]
  refine opsN_step (v := .int .u64 (IntKind.u64.wrap (-(m : Int)))) (h := h) (by simp (disch := omega) [opV, evalG, evalT, putT, hI, h5, EZ_P, loadV, hl, convertV]) ?_
  dsimp only [putT, List.set]
  refine opsN_step (v := .int .u64 (IntKind.u64.wrap (andI 64 (m : Int) (IntKind.u64.wrap (-(m : Int)))))) (h := h) (by simp (disch := omega) [opV, evalG, evalT, putT, hI, h5, EZ_P, loadV, hl, convertV]) ?_
  dsimp only [putT, List.set]
  refine opsN_step (v := .int .u64 (IntKind.u64.wrap (IntKind.u64.wrap (andI 64 (m : Int) (IntKind.u64.wrap (-(m : Int)))) * 285870213051353865))) (h := h) (by simp (disch := omega) [opV, evalG, evalT, putT, hI, h5, EZ_P, loadV, hl, convertV]) ?_
  dsimp only [putT, List.set]
  refine opsN_step (v := .int .u64 (I : Int)) (h := h) (by simp (disch := omega) [opV, evalG, evalT, putT, hI, h5, EZ_P, loadV, hl, convertV]) ?_
  dsimp only [putT, List.set]
  refine opsN_step (v := .pcon tb64 I) (h := h) (by simp (disch := omega) [opV, evalG, evalT, putT, hI, h5, EZ_P, loadV, hl, convertV]) ?_
  dsimp only [putT, List.set]
  refine opsN_step (v := .int .u8 (K : Int)) (h := h) (by simp (disch := omega) [opV, evalG, evalT, putT, hI, h5, EZ_P, loadV, hl, convertV]) ?_
  dsimp only [putT, List.set]
  refine opsN_step (v := .int .i64 (K : Int)) (h := h) (by simp (disch := omega) [opV, evalG, evalT, putT, hI, h5, EZ_P, loadV, hl, convertV]) ?_
  dsimp only [putT, List.set]
  refine opsN_step (v := .int .i64 (K : Int)) (h := h) (by simp (disch := omega) [opV, evalG, evalT, putT, hI, h5, EZ_P, loadV, hl, convertV]) ?_
  dsimp only [putT, List.set]
  rfl
 case e => simp [resultsV]
 case f => rfl
 case g => rfl
theorem tzBody (m : Nat) (hm : m < 2 ^ 64) (h : Heap) : bodyV EZ (evG EZ 0 12) 71 [.int .u64 (m : Int)] h = some (.int .i64 (Tz.tz m : Int), h) := by
 by_cases h0 : m = 0
 ·subst h0; exact tzBody0 h
 ·have h2 := (Tz.tz_spec h0 hm).1
  obtain ⟨h3, h4⟩ := tab_tz_at h2
  exact tzBody1 h0 h3 h4 h2 (idx_of h2 (and_neg h0 hm)) h
theorem known_tz : ∀ args h r h', tzV args h = some (r, h') → CallS Tryz.prog pM 71 args h r h' :=
 tz_known (E := EZ) (g := 0) (n := 12) rfl mok0.eq mok0.fn mok0.kn mok0.ki tzBody
end Go.Proofs.YtfplmcpkagpaiaaGreatDoor
end
section
namespace Go.Proofs.YtfplmcpkagpaiaaGreatDoor
open Go Go.Sim Go.Sim.Kr
theorem fnOk : FnOk E pM where
 frame := by
  intro g F hg hF
  obtain rfl : g = 71 := Nat.eq_of_beq_eq_true hg
  obtain rfl := (Option.some.inj hF).symm
  exact Kr.tzV_frame
 good := by first | exact mok0.fn.good | exact fun f fn c _ => mok0.fn.good f fn c rfl
theorem eqOk : EqOk E := by
 have h : (E.eqTypes.all fun t => !Tryz.prog.stoodInHeld t && !Tryz.prog.eqGuardType Tryz.prog.depth t) = true := by kernel_rfl
 intro t ht
 have := List.all_eq_true.1 h t (by simpa using ht)
 simpa using this
theorem knownOk : KnownOk E pM := by
 intro f F hF
 change knownT f = some F at hF
 unfold knownT at hF
 split at hF
 ·obtain rfl := (Option.some.inj hF).symm
  exact known_42
 ·obtain rfl := (Option.some.inj hF).symm
  exact known_43
 ·obtain rfl := (Option.some.inj hF).symm
  exact known_44
 ·obtain rfl := (Option.some.inj hF).symm
  exact known_45
 ·obtain rfl := (Option.some.inj hF).symm
  exact known_69
 ·obtain rfl := (Option.some.inj hF).symm
  exact known_113
 ·obtain rfl := (Option.some.inj hF).symm
  exact known_Sum
 ·obtain rfl := (Option.some.inj hF).symm
  exact known_Rest
 ·obtain rfl := (Option.some.inj hF).symm
  exact known_Product
 ·obtain rfl := (Option.some.inj hF).symm
  exact known_Ratio
 ·obtain rfl := (Option.some.inj hF).symm
  exact known_Stand
 ·obtain rfl := (Option.some.inj hF).symm
  exact known_Toward
 ·obtain rfl := (Option.some.inj hF).symm
  exact known_Of
 ·obtain rfl := (Option.some.inj hF).symm
  exact known_Binary
 ·obtain rfl := (Option.some.inj hF).symm
  exact known_tz
 ·cases hF
theorem knownIn : KnownIn E := by
 intro f F hF
 change knownT f = some F at hF
 unfold knownT at hF
 split at hF
 ·exact ⟨Tryz.f42, Tryz.f42.body.getD .skip, Tryz.func42, by kernel_rfl, by simp [Tryz.f42]⟩
 ·exact ⟨Tryz.f43, Tryz.f43.body.getD .skip, Tryz.func43, by kernel_rfl, by simp [Tryz.f43]⟩
 ·exact ⟨Tryz.f44, Tryz.f44.body.getD .skip, Tryz.func44, by kernel_rfl, by simp [Tryz.f44]⟩
 ·exact ⟨Tryz.f45, Tryz.f45.body.getD .skip, Tryz.func45, by kernel_rfl, by simp [Tryz.f45]⟩
 ·exact ⟨Tryz.f69, Tryz.f69.body.getD .skip, Tryz.func69, by kernel_rfl, by simp [Tryz.f69]⟩
 ·exact ⟨Tryz.f113, Tryz.f113.body.getD .skip, Tryz.func113, by kernel_rfl, by simp [Tryz.f113]⟩
 ·exact ⟨Tryz.f143, Tryz.f143.body.getD .skip, Tryz.func143, by kernel_rfl, by simp [Tryz.f143]⟩
 ·exact ⟨Tryz.f144, Tryz.f144.body.getD .skip, Tryz.func144, by kernel_rfl, by simp [Tryz.f144]⟩
 ·exact ⟨Tryz.f145, Tryz.f145.body.getD .skip, Tryz.func145, by kernel_rfl, by simp [Tryz.f145]⟩
 ·exact ⟨Tryz.f146, Tryz.f146.body.getD .skip, Tryz.func146, by kernel_rfl, by simp [Tryz.f146]⟩
 ·exact ⟨Tryz.f136, Tryz.f136.body.getD .skip, Tryz.func136, by kernel_rfl, by simp [Tryz.f136]⟩
 ·exact ⟨Tryz.f141, Tryz.f141.body.getD .skip, Tryz.func141, by kernel_rfl, by simp [Tryz.f141]⟩
 ·exact ⟨Tryz.f140, Tryz.f140.body.getD .skip, Tryz.func140, by kernel_rfl, by simp [Tryz.f140]⟩
 ·exact ⟨Tryz.f133, Tryz.f133.body.getD .skip, Tryz.func133, by kernel_rfl, by simp [Tryz.f133]⟩
 ·exact ⟨Tryz.f71, Tryz.f71.body.getD .skip, Tryz.func71, by kernel_rfl, by simp [Tryz.f71]⟩
 ·cases hF
end Go.Proofs.YtfplmcpkagpaiaaGreatDoor
end
