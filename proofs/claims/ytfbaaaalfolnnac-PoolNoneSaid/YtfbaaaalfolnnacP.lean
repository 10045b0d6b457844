/-
  PoolNone: whatever the arguments, the law answers true, and each argument reads behind the call as it read before. No condition.
-/
import Derived.Test.YtfbaaaalfolnnacNl
import Derived.Test.YtfbaaaalfolnnacNe
import Derived.Test.YtfbaaaalfolnnacMe
import Derived.Test.YtfbaaaalfolnnacRows
import Derived.WalkKit
import Derived.ProofKit
import Derived.OpenShut
import Derived.Conc.LeavingOf
section
namespace Go.Proofs.Ytfbaaaalfolnnac.poolNone
open Go Go.Sim Go.Proofs.Ytfbaaaalfolnnac Go.ChangeShapes Go.WideShapes Go.ChangeAt Go.RowKit
set_option linter.unusedVariables false
set_option maxRecDepth 100000

theorem own : ownKnob Try.prog.godebug = none := by kernel_rfl
theorem laidOut : laidOutB Try.prog = true := by kernel_rfl
theorem reads : (Try.f3.params.toList.all fun t => Try.prog.readableRec t && decide (t < Try.prog.types.size)) = true := by kernel_rfl
theorem evo (f : FuncId) (lent : Bool) (args : List V) (r : V) (n : Nat) (h : pureV E (ev E n) f lent args = some r) : pureV E (om E) f lent args = some r :=
  (pureV_fs E f lent args).mono (fun c s r hr => (om_iff E).mpr ⟨n, hr⟩) h

theorem lifted (os : Os) (started : os.Started) (H : Type) (enc : TypeId × Value → H) :
    ReturnsInLeavingWide {} Try.checked os 3 .any (Rows.poolNoneSpec.pre6 enc Try.prog Try.f3 Rows.poolNoneRow.domain false) (Rows.poolNoneSpec.post enc Try.prog Try.f3 false true false false) := by
  refine returnsInLeavingWide_of_change_sized (C := Try.checked) own started Try.func3
    (ChangeSpec.witness6 (enc := enc) (C := Try.checked) false ⟨#[], #[.agg #[.int .i64 0, .int .i64 0, .int .i64 0, .int .u32 0, .slice none 0 0, .slice none 0 0]], []⟩ 8 (by kernel_rfl) (by kernel_rfl) (by kernel_rfl) (by kernel_rfl)) ?_
  intro W base args ds gs before hval0 hW hcnd _ _
  have hval : ∀ (j : Nat) t v, Try.f3.params[j]? = some t → args[j]? = some v → Value.okWide Try.prog W .any base t v := hval0
  have hW' := hW
  obtain ⟨p, q, hA0, hV, rfl, hfz, hnd⟩ := hW
  have hA : DataW.TrodAll enc Try.prog W 0 (fun _ => true) true Try.f3.params.toList args.toList ds p := hA0
  rw [Try.params3] at hA hval
  obtain ⟨v0, vs0, d0, ds0, p0, q0, hargs, rfl, rfl, h0, r0⟩ := trodAll_cons hA
  obtain ⟨rfl, rfl, rfl⟩ := trodAll_nil r0
  obtain rfl : args = #[v0] := by cases args; simp_all
  obtain ⟨rfl, rfl⟩ := trodVars_none hV
  obtain ⟨cs, rfl, hlen, hcell⟩ := struct_cells (ts := [3, 3, 3, 22, 23, 24]) Try.underlying26 (by kernel_rfl) (by kernel_rfl) (hval 0 26 v0 rfl rfl)
  obtain ⟨c0, c1, c2, c3, c4, c5, rfl⟩ := six hlen
  obtain ⟨x0, rfl⟩ := cell_int Try.underlying3 (hcell 0 c0 3 rfl rfl)
  obtain ⟨x1, rfl⟩ := cell_int Try.underlying3 (hcell 1 c1 3 rfl rfl)
  obtain ⟨x2, rfl⟩ := cell_int Try.underlying3 (hcell 2 c2 3 rfl rfl)
  obtain ⟨x3, rfl⟩ := cell_int Try.underlying22 (hcell 3 c3 22 rfl rfl)
  obtain ⟨n4, o4, hn4⟩ := cell_slice (ok := fun b => b < W.heap.size) Try.underlying23 (hcell 4 c4 23 rfl rfl)
  obtain ⟨n5, o5, hn5⟩ := cell_slice (ok := fun b => b < W.heap.size) Try.underlying24 (hcell 5 c5 24 rfl rfl)
  have hlaw := evo 3 false [.agg [.int .i64 x0, .int .i64 x1, .int .i64 x2, .int .u32 x3, .scon [] 0 n4 false, .scon [] 0 n5 false]] (.bool true) 200 (none_eval x0 x1 x2 x3 n4 n5)
  have hO : ORelL (fun b => b < W.heap.size) W Bd.none_ [.int .i64 x0, .int .i64 x1, .int .i64 x2, .int .u32 x3, .scon [] 0 n4 false, .scon [] 0 n5 false] [.int .i64 x0, .int .i64 x1, .int .i64 x2, .int .u32 x3, c4, c5] := by
    simp only [ORelL]
    exact ⟨_, _, rfl, rfl, by simp only [VRel], _, _, rfl, rfl, by simp only [VRel], _, _, rfl, rfl, by simp only [VRel], _, _, rfl, rfl, by simp only [VRel], _, _, rfl, o4, hn4, _, _, rfl, o5, hn5, rfl⟩
  have hV0 : VRel (fun b => b < W.heap.size) W Bd.none_ (.agg [.int .i64 x0, .int .i64 x1, .int .i64 x2, .int .u32 x3, .scon [] 0 n4 false, .scon [] 0 n5 false]) (.agg [.int .i64 x0, .int .i64 x1, .int .i64 x2, .int .u32 x3, c4, c5].toArray) := by
    unfold VRel
    exact ⟨_, rfl, hO⟩
  have hR : VRelL (fun b => b < W.heap.size) W Bd.none_ [.agg [.int .i64 x0, .int .i64 x1, .int .i64 x2, .int .u32 x3, .scon [] 0 n4 false, .scon [] 0 n5 false]] ([.agg [.int .i64 x0, .int .i64 x1, .int .i64 x2, .int .u32 x3, c4, c5].toArray] : List Value) := by
    unfold VRelL
    refine ⟨_, _, rfl, hV0, ?_⟩
    simp only [VRelL]
  have hc := law_calls (E := E) (w := W) (args' := #[.agg [.int .i64 x0, .int .i64 x1, .int .i64 x2, .int .u32 x3, c4, c5].toArray]) eqOk fnOk knownOk knownIn (f := 3) rfl rfl (by simp) (by simp) hlaw hR
  refine good_of_calls (P := Try.prog) (by kernel_rfl) ?_
  refine Calls.mono (P := Try.prog) hc fun e W' ⟨he, hb⟩ => ?_
  subst he
  exact ⟨_, rfl, law_post (tb := 4) laidOut (fun t ht => by have := List.all_eq_true.1 reads t ht; simp at this; exact this) Try.underlying4 (by kernel_rfl) rfl hW' rfl hb⟩

theorem over : Rows.poolNoneRow.holds Try.pinned (OpenSpec.ofChange Rows.poolNoneSpec) :=
  OpenClaim.holds_of_wide_leaving 3 Try.f3 rfl rfl rfl rfl rfl rfl rfl ⟨rfl, rfl, rfl, rfl, rfl⟩ rfl rfl rfl rfl rfl (by kernel_rfl) Try.func3 (by kernel_rfl)
    (of_decide_eq_true (by kernel_rfl)) (by unfold Func.isWrapper; first | (rw [if_pos (by decide +kernel)]; kernel_rfl) | (rw [if_neg (by decide +kernel)]; exact ⟨rfl, rfl⟩))
    (fun os started H enc _ => lifted os started H enc)

/-- ████ THE STATEMENT ████ -/
theorem proved : Rows.PoolNoneSaid :=
  over
#print axioms proved
end Go.Proofs.Ytfbaaaalfolnnac.poolNone
end
