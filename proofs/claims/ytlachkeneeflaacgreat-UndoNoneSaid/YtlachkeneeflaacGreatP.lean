/-
  UndoNone: whatever the arguments, the law answers true, and each argument reads behind the call as it read before. No condition.
-/
import Derived.Test.YtlachkeneeflaacGreatNl
import Derived.Test.YtlachkeneeflaacGreatNe
import Derived.Test.YtlachkeneeflaacGreatMe
import Derived.Test.YtlachkeneeflaacGreatRows
import Derived.WalkKit
import Derived.ProofKit
import Derived.OpenShut
section
namespace Go.Proofs.YtlachkeneeflaacGreat.undoNone
open Go Go.Sim Go.Proofs.YtlachkeneeflaacGreat Go.ChangeShapes Go.WideShapes Go.ChangeAt Go.RowKit
set_option linter.unusedVariables false
set_option maxRecDepth 100000

theorem own : ownKnob Tryz.prog.godebug = none := by kernel_rfl
theorem laidOut : laidOutB Tryz.prog = true := by kernel_rfl
theorem reads : (Tryz.f3.params.toList.all fun t => Tryz.prog.readableRec t && decide (t < Tryz.prog.types.size)) = true := by kernel_rfl
theorem evo (f : FuncId) (lent : Bool) (args : List V) (r : V) (n : Nat) (h : pureV E (ev E n) f lent args = some r) : pureV E (om E) f lent args = some r :=
  (pureV_fs E f lent args).mono (fun c s r hr => (om_iff E).mpr ⟨n, hr⟩) h

theorem lifted (os : Os) (started : os.Started) (H : Type) (enc : TypeId × Value → H) :
    ReturnsInHanded {} Tryz.checked os 3 .any (Rows.undoNoneSpec.pre6 enc Tryz.prog Tryz.f3 Rows.undoNoneRow.domain false) (Rows.undoNoneSpec.post enc Tryz.prog Tryz.f3 false true false false) := by
  refine returnsInHanded_of_change (C := Tryz.checked) own started (by kernel_rfl) Tryz.func3
    (ChangeSpec.witness6 (enc := enc) (C := Tryz.checked) false ⟨#[], #[.agg #[.int .i64 0, .int .i64 0, .int .i64 0, .int .u32 0, .slice none 0 0, .slice none 0 0], .slice none 0 0, .int .i64 0], []⟩ 8 (by kernel_rfl) (by kernel_rfl) (by kernel_rfl) (by kernel_rfl)) ?_
  intro W base args ds gs before hval0 hW hcnd _
  have hval : ∀ (j : Nat) t v, Tryz.f3.params[j]? = some t → args[j]? = some v → Value.okWide Tryz.prog W .any base t v := hval0
  have hW' := hW
  obtain ⟨p, q, hA0, hV, rfl, hfz, hnd⟩ := hW
  have hA : DataW.TrodAll enc Tryz.prog W 0 (fun _ => true) true Tryz.f3.params.toList args.toList ds p := hA0
  rw [Tryz.params3] at hA hval
  obtain ⟨v0, vs0, d0, ds0, p0, q0, hargs, rfl, rfl, h0, r0⟩ := trodAll_cons hA
  obtain ⟨v1, vs1, d1, ds1, p1, q1, rfl, rfl, rfl, h1, r1⟩ := trodAll_cons r0
  obtain ⟨v2, vs2, d2, ds2, p2, q2, rfl, rfl, rfl, h2, r2⟩ := trodAll_cons r1
  obtain ⟨rfl, rfl, rfl⟩ := trodAll_nil r2
  obtain rfl : args = #[v0, v1, v2] := by cases args; simp_all
  obtain ⟨rfl, rfl⟩ := trodVars_none hV
  obtain ⟨cs, rfl, hlen, hcell⟩ := struct_cells (ts := [3, 3, 3, 22, 23, 24]) Tryz.underlying26 (by kernel_rfl) (by kernel_rfl) (hval 0 26 v0 rfl rfl)
  obtain ⟨c0, c1, c2, c3, c4, c5, rfl⟩ := six hlen
  obtain ⟨x0, rfl⟩ := cell_int Tryz.underlying3 (hcell 0 c0 3 rfl rfl)
  obtain ⟨x1, rfl⟩ := cell_int Tryz.underlying3 (hcell 1 c1 3 rfl rfl)
  obtain ⟨x2, rfl⟩ := cell_int Tryz.underlying3 (hcell 2 c2 3 rfl rfl)
  obtain ⟨x3, rfl⟩ := cell_int Tryz.underlying22 (hcell 3 c3 22 rfl rfl)
  obtain ⟨n4, o4, hn4⟩ := cell_slice (ok := fun b => b < W.heap.size) Tryz.underlying23 (hcell 4 c4 23 rfl rfl)
  obtain ⟨n5, o5, hn5⟩ := cell_slice (ok := fun b => b < W.heap.size) Tryz.underlying24 (hcell 5 c5 24 rfl rfl)
  obtain ⟨n3, _, hn3⟩ := list_any (ok := fun b => b < W.heap.size) (w := W) (slice_shape (W := W) Tryz.underlying27 (hval 1 27 v1 rfl rfl))
  obtain ⟨q, rfl, _, _, _⟩ := open_int Tryz.underlying3 (hval 2 3 v2 rfl rfl) h2
  have hlaw := evo 3 false [.agg [.int .i64 x0, .int .i64 x1, .int .i64 x2, .int .u32 x3, .scon [] 0 n4 false, .scon [] 0 n5 false], .scon [] 0 n3 false, .int .i64 q] (.bool true) 200 (none_eval x0 x1 x2 x3 q n4 n5 n3)
  have hO : ORelL (fun b => b < W.heap.size) W Bd.none_ [.int .i64 x0, .int .i64 x1, .int .i64 x2, .int .u32 x3, .scon [] 0 n4 false, .scon [] 0 n5 false] [.int .i64 x0, .int .i64 x1, .int .i64 x2, .int .u32 x3, c4, c5] := by
    simp only [ORelL]
    exact ⟨_, _, rfl, rfl, by simp only [VRel], _, _, rfl, rfl, by simp only [VRel], _, _, rfl, rfl, by simp only [VRel], _, _, rfl, rfl, by simp only [VRel], _, _, rfl, o4, hn4, _, _, rfl, o5, hn5, rfl⟩
  have hV0 : VRel (fun b => b < W.heap.size) W Bd.none_ (.agg [.int .i64 x0, .int .i64 x1, .int .i64 x2, .int .u32 x3, .scon [] 0 n4 false, .scon [] 0 n5 false]) (.agg [.int .i64 x0, .int .i64 x1, .int .i64 x2, .int .u32 x3, c4, c5].toArray) := by
    unfold VRel
    exact ⟨_, rfl, hO⟩
  have hR : VRelL (fun b => b < W.heap.size) W Bd.none_ [.agg [.int .i64 x0, .int .i64 x1, .int .i64 x2, .int .u32 x3, .scon [] 0 n4 false, .scon [] 0 n5 false], .scon [] 0 n3 false, .int .i64 q] ([.agg [.int .i64 x0, .int .i64 x1, .int .i64 x2, .int .u32 x3, c4, c5].toArray, v1, .int .i64 q] : List Value) := by
    unfold VRelL
    refine ⟨_, _, rfl, hV0, ?_⟩
    unfold VRelL
    refine ⟨_, _, rfl, hn3, ?_⟩
    unfold VRelL
    refine ⟨_, _, rfl, by simp only [VRel], ?_⟩
    simp only [VRelL]
  have hc := law_calls (E := E) (w := W) (args' := #[.agg [.int .i64 x0, .int .i64 x1, .int .i64 x2, .int .u32 x3, c4, c5].toArray, v1, .int .i64 q]) eqOk fnOk knownOk knownIn (f := 3) rfl rfl (by simp) (by simp) hlaw hR
  refine Calls.mono (P := Tryz.prog) hc fun e W' ⟨he, hb⟩ => ?_
  subst he
  exact ⟨_, rfl, law_post (tb := 4) laidOut (fun t ht => by have := List.all_eq_true.1 reads t ht; simp at this; exact this) Tryz.underlying4 (by kernel_rfl) rfl hW' rfl hb⟩

theorem over : Rows.undoNoneRow.holds Tryz.pinned (OpenSpec.ofChange Rows.undoNoneSpec) :=
  OpenClaim.holds_of_wide 3 Tryz.f3 rfl rfl rfl rfl rfl rfl rfl ⟨rfl, rfl, rfl, rfl, rfl⟩ rfl rfl rfl rfl rfl (by kernel_rfl) Tryz.func3 (by kernel_rfl)
    (of_decide_eq_true (by kernel_rfl)) (by unfold Func.isWrapper; first | (rw [if_pos (by decide +kernel)]; kernel_rfl) | (rw [if_neg (by decide +kernel)]; exact ⟨rfl, rfl⟩))
    (fun os started H enc _ => lifted os started H enc)

/-- ████ THE STATEMENT ████ -/
theorem proved : Rows.UndoNoneSaid :=
  over
#print axioms proved
end Go.Proofs.YtlachkeneeflaacGreat.undoNone
end
