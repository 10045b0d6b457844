/-
  The law VerifyTells, walked.
  A list of questions as an argument.
  VerifyTells: whatever the image and the questions, the law answers true, and the arguments read behind the call as they read before. No condition.
-/
import Derived.Test.YthiciofacaeddaaGreatLd
import Derived.Test.YthiciofacaeddaaGreatNb
import Derived.Test.YthiciofacaeddaaGreatRows
import Derived.WalkKit
import Derived.ProofKit
import Derived.OpenShut
section
namespace Go.Proofs.YthiciofacaeddaaGreat
open Go Go.Sim
set_option maxRecDepth 100000
set_option maxHeartbeats 0
set_option linter.unusedSimpArgs false
set_option linter.unusedVariables false

/-- A question. -/
structure Ask where
  which : UInt8
  i : UInt32
  to : UInt32
  name : List UInt8
def eAsk : Enc Ask where
  enc a := [w8 a.which.toNat, w32 a.i.toNat, w32 a.to.toNat, .str a.name]
  k := 4
  pos := by omega
  len := fun _ => rfl
  canon := fun _ => by simp
  flat := fun _ => by simp
  ok := fun _ => by simp
@[simp] theorem eAsk_k : eAsk.k = 4 := rfl
@[simp] theorem eAsk_enc (a) : eAsk.enc a = [w8 a.which.toNat, w32 a.i.toNat, w32 a.to.toNat, .str a.name] := rfl
theorem eAsk_get {l : List Ask} {k j : Nat} (hj : j < 4) (hk : k < l.length) : (cat eAsk l)[k * 4 + j]? = ([w8 l[k].which.toNat, w32 l[k].i.toNat, w32 l[k].to.toNat, .str l[k].name] : List V)[j]? := by
  have := cat_get eAsk l k j hj
  rw [eAsk_k] at this
  rw [this, List.getElem?_eq_getElem hk]
  rfl
theorem VerifyTells (x : Img) (l : List Ask) (hl : l.length < 2 ^ 62) (h1 : x.code.length ≤ 17592186043904) (h2 : x.jumps.length ≤ 35184372087808) (h3 : x.data.length ≤ 140737488351232) (h4 : x.names.length ≤ 5864062014634) :
    pureV E (om E) 4 false [imgV x, lst eAsk l] = some (bb true) := by
  apply pu_4
  by_cases h : Taken x
  · have hT := taken_ok x h h1 h2 h3 h4
    have hW := Whole x h
    have he := eq_modV x
    have hTo := fun (i t : UInt32) => Told x h i.toNat t.toNat i.toNat_lt t.toNat_lt
    obtain ⟨c1, c2, c3, c4, c5, c6, c7⟩ := check_ok h.chk
    have hM := procs_solid (sF x) (tsF x)
    have hEn := MEntry hM (nF x) (dF x) x (bitsI x) (digestP x) c6
    have hEr := RMEntry ((sF x).1.zip (nF x)) (dF x) x (bitsI x) false c6
    rw [← mod_eq] at hEn
    have hrf : refM ((sF x).1.zip (nF x)) (dF x) x (bitsI x) = refV x := rfl
    rw [hrf] at hEr
    obtain ⟨g1, g2, g3⟩ := mod_solid x
    obtain ⟨r1, r2, r3⟩ := ref_solid x
    have s1 : ∀ k H, V.settle k H (modV x) = modV x := (mod_solid x).settle
    have s2 : ∀ k H, V.settle k H (refV x) = refV x := (ref_solid x).settle
    clear hrf hM
    generalize modV x = M at *
    generalize refV x = R at *
    simp (disch := omega) [if_pos, if_neg, iteK_pos, iteK_neg, Tryz.f4, hT, Awake, he, g1, g2, g3, r1, r2, r3]
    refine loop_chg (dyn := []) (fun n : Nat => [(30, ii n)]) (fun _ => []) (fun _ => []) (fun n => n ≤ l.length) (fun n => l.length - n) hint_4_0 (by kernel_rfl) ?_ 0 (by omega) (by simp)
    intro n hn IH
    rw [lpB_eq]
    by_cases hlt : n < l.length
    · obtain ⟨y, hy⟩ : ∃ y, l[n] = y := ⟨_, rfl⟩
      have t1 := hTo y.i y.to
      have t2 := hTo y.to y.i
      have e1 := hEn y.name
      have e2 := hEr y.name
      clear hTo hEn hEr
      generalize entryF x.names y.name = en at *
      by_cases hz : y.which.toNat % 4 = 0
      · have hz' : (y.which.toNat : Int) % 4 = 0 := by omega
        simp (disch := omega) [if_pos, if_neg, iteK_pos, iteK_neg, hlt, hy, t1, t2, e1, e2, hz', neqBool, hW, s1, s2, g1, g2, g3, r1, r2, r3]
        exact IH (n + 1) _ _ (by omega) (by omega) (by simp)
      · have hz' : ¬ (y.which.toNat : Int) % 4 = 0 := by omega
        simp (disch := omega) [if_pos, if_neg, iteK_pos, iteK_neg, hlt, hy, t1, t2, e1, e2, hz', neqBool, hW, s1, s2, g1, g2, g3, r1, r2, r3]
        exact IH (n + 1) _ _ (by omega) (by omega) (by simp)
    · obtain rfl : n = l.length := by omega
      simp (disch := omega) [if_pos, if_neg, iteK_pos, iteK_neg, hlt]
  · have hT := taken_no x h h1 h2 h3 h4
    simp (disch := omega) [if_pos, if_neg, iteK_pos, iteK_neg, Tryz.f4, hT, eq_nilM, Awake]
end Go.Proofs.YthiciofacaeddaaGreat
end
section
namespace Go.Proofs.YthiciofacaeddaaGreat
open Go Go.Sim Go.RowKit Go.ChangeShapes Go.WideShapes Go.Deep
set_option maxRecDepth 100000
set_option linter.unusedSimpArgs false
set_option linter.unusedVariables false

section
variable {H : Type} {enc : TypeId × Value → H} {W : World}
theorem four_in {P : Program} {e : TypeId} {f0 f1 f2 f3 : Field} {n : Nat} {cs : List Value} {x : DataW H × List MemPlace} (hu : P.underlying e = some (.struct #[f0, f1, f2, f3])) (h2 : P.cellsOf e = 4) (ho0 : f0.offset = 0) (ho1 : f1.offset = 1) (ho2 : f2.offset = 2) (ho3 : f3.offset = 3)
    (hc0 : P.cellsOf f0.type = 1) (hc1 : P.cellsOf f1.type = 1) (hc2 : P.cellsOf f2.type = 1) (hc3 : P.cellsOf f3.type = 1)
    (hT : DataW.trod enc P W 0 (fun _ => true) true n e cs = some x) : ∃ a b c d n' y z u v, cs = [a, b, c, d] ∧ DataW.trod enc P W 0 (fun _ => true) true n' f0.type [a] = some y ∧ DataW.trod enc P W 0 (fun _ => true) true n' f1.type [b] = some z ∧
      DataW.trod enc P W 0 (fun _ => true) true n' f2.type [c] = some u ∧ DataW.trod enc P W 0 (fun _ => true) true n' f3.type [d] = some v := by
  obtain ⟨xs, n', rfl, hx, hl, hxl, hf⟩ := DataW.trod_struct hu hT
  rw [h2] at hl
  match cs, hl with
  | [a, b, c, d], _ =>
    have g0 := hf 0 f0 rfl
    have g1 := hf 1 f1 rfl
    have g2 := hf 2 f2 rfl
    have g3 := hf 3 f3 rfl
    rw [ho0, hc0] at g0
    rw [ho1, hc1] at g1
    rw [ho2, hc2] at g2
    rw [ho3, hc3] at g3
    simp at hxl
    match xs, hxl with
    | [y, z, u, v], _ => exact ⟨a, b, c, d, n', y, z, u, v, rfl, by simpa using g0, by simpa using g1, by simpa using g2, by simpa using g3⟩
theorem el_ask (n : Nat) (cs : List Value) (x : DataW H × List MemPlace) (h : DataW.trod enc Tryz.prog W 0 (fun _ => true) true n 38 cs = some x) : ∃ a : Ask, cs = (eAsk.enc a).map toVal ∧ ∀ u ∈ eAsk.enc a, simpleV u = true := by
  obtain ⟨a, b, c, d, n', y, z, u, v, rfl, h0, h1, h2, h3⟩ := four_in Tryz.underlying38 (by kernel_rfl) rfl rfl rfl rfl (by kernel_rfl) (by kernel_rfl) (by kernel_rfl) (by kernel_rfl) h
  obtain ⟨m0, e0, _, w0⟩ := DataW.trod_int Tryz.underlying5 h0
  obtain ⟨m1, e1, _, w1⟩ := DataW.trod_int Tryz.underlying25 h1
  obtain ⟨m2, e2, _, w2⟩ := DataW.trod_int Tryz.underlying25 h2
  obtain ⟨s, e3, _⟩ := DataW.trod_string Tryz.underlying9 h3
  simp at e0 e1 e2 e3
  subst e0 e1 e2 e3
  refine ⟨⟨UInt8.ofNat m0.toNat, UInt32.ofNat m1.toNat, UInt32.ofNat m2.toNat, s.data.toList⟩, ?_, by simp [simpleV]⟩
  show _ = [Value.int .u8 _, Value.int .u32 _, Value.int .u32 _, Value.string ⟨s.data.toList.toArray⟩]
  rw [← u8_of w0, ← u32_of w1, ← u32_of w2]
instance : Inhabited Ask := ⟨⟨0, 0, 0, []⟩⟩
theorem asks_in {b0 : Nat} {v : Value} {d : DataW H} {ps : List MemPlace} (hv : Value.okWide Tryz.prog W .any b0 36 v) (hT : DataW.Trod enc Tryz.prog W 0 (fun _ => true) true 36 v d ps) :
    ∃ c : List Ask, VRel (fun b => b < W.heap.size) W Bd.none_ (lst eAsk c) v ∧ ∀ (j : Nat) ts ds, ts[j]? = some 36 → ds[j]? = some d → (DataW.weightsEach Tryz.prog ts ds).all (· ≤ reachBytes) = true → c.length ≤ 140737488351232 := by
  obtain ⟨fuel, hf⟩ := hT
  have hs := slice_shape (P := Tryz.prog) Tryz.underlying36 hv
  have hcell : v.cells.toList = [v] := by rcases hs with rfl | ⟨b, off, len, cap, rfl, _⟩ <;> rfl
  rw [hcell] at hf
  obtain ⟨c, o, r, l⟩ := list_in eAsk Tryz.underlying36 (by kernel_rfl) el_ask hs hf
  refine ⟨c, r, fun j ts ds h1 h2 h3 => ?_⟩
  have := weight_le Tryz.underlying36 hf r h1 h2 h3
  have hb : Tryz.prog.bytesOf 38 = 32 := by kernel_rfl
  rw [hb] at this
  omega
end
end Go.Proofs.YthiciofacaeddaaGreat
end
section
namespace Go.Proofs.YthiciofacaeddaaGreat.verifyTells
open Go Go.Sim Go.Proofs.YthiciofacaeddaaGreat Go.ChangeShapes Go.WideShapes Go.ChangeAt Go.RowKit
set_option linter.unusedVariables false
set_option maxRecDepth 100000

theorem own : ownKnob Tryz.prog.godebug = none := by kernel_rfl
theorem laidOut : laidOutB Tryz.prog = true := by kernel_rfl
theorem reads : (Tryz.f4.params.toList.all fun t => Tryz.prog.readableRec t && decide (t < Tryz.prog.types.size)) = true := by kernel_rfl

theorem lifted (os : Os) (started : os.Started) (H : Type) (enc : TypeId × Value → H) :
    ReturnsInHanded {} Tryz.checked os 4 .any (Rows.verifyTellsSpec.pre6 enc Tryz.prog Tryz.f4 Rows.verifyTellsRow.domain false) (Rows.verifyTellsSpec.post enc Tryz.prog Tryz.f4 false true false false) := by
  refine returnsInHanded_of_change_sized (C := Tryz.checked) own started (by kernel_rfl) Tryz.func4
    (ChangeSpec.witness6 (enc := enc) (C := Tryz.checked) false ⟨#[], #[.agg #[.slice none 0 0, .slice none 0 0, .slice none 0 0, .int .u32 0, .int .u32 0, .slice none 0 0], .slice none 0 0], []⟩ 8 (by kernel_rfl) (by kernel_rfl) (by kernel_rfl) (by kernel_rfl)) ?_
  intro W base args ds gs before hval0 hW hcnd hwt _
  have hval : ∀ (j : Nat) t v, Tryz.f4.params[j]? = some t → args[j]? = some v → Value.okWide Tryz.prog W .any base t v := hval0
  have hW' := hW
  obtain ⟨p, q, hA0, hV, rfl, hfz, hnd⟩ := hW
  have hA : DataW.TrodAll enc Tryz.prog W 0 (fun _ => true) true Tryz.f4.params.toList args.toList ds p := hA0
  rw [Tryz.params4] at hA hval
  obtain ⟨v0, vs0, d0, ds0, p0, q0, hargs, rfl, rfl, h0, r0⟩ := trodAll_cons hA
  obtain ⟨v1, vs1, d1, ds1, p1, q1, rfl, rfl, rfl, h1, r1⟩ := trodAll_cons r0
  obtain ⟨rfl, rfl, rfl⟩ := trodAll_nil r1
  obtain rfl : args = #[v0, v1] := by cases args; simp_all
  obtain ⟨rfl, rfl⟩ := trodVars_none hV
  obtain ⟨x, g0, m0⟩ := img_in (hval 0 28 v0 rfl rfl) h0
  obtain ⟨c, g1, m1⟩ := asks_in (hval 1 36 v1 rfl rfl) h1
  have lc := m1 1 _ _ rfl rfl hwt
  obtain ⟨l0, l1, l2, l3⟩ := m0 0 _ _ rfl rfl hwt
  have hlaw := VerifyTells x c (by omega) l0 l1 l2 l3
  have hc := law_calls (E := E) (w := W) (args' := #[v0, v1]) eqOk fnOk knownOk knownIn (f := 4) rfl rfl (by simp) (by simp) hlaw (by simp only [VRelL]; exact ⟨v0, _, rfl, g0, v1, _, rfl, g1, rfl⟩)
  refine Calls.mono (P := Tryz.prog) hc fun e W' ⟨he, hb⟩ => ?_
  subst he
  exact ⟨_, rfl, law_post (tb := 4) laidOut (fun t ht => by have := List.all_eq_true.1 reads t ht; simp at this; exact this) Tryz.underlying4 (by kernel_rfl) rfl hW' rfl hb⟩

theorem over : Rows.verifyTellsRow.holds Tryz.pinned (OpenSpec.ofChange Rows.verifyTellsSpec) :=
  OpenClaim.holds_of_wide 4 Tryz.f4 rfl rfl rfl rfl rfl rfl rfl ⟨rfl, rfl, rfl, rfl, rfl⟩ rfl rfl rfl rfl rfl (by kernel_rfl) Tryz.func4 (by kernel_rfl)
    (of_decide_eq_true (by kernel_rfl)) (by unfold Func.isWrapper; first | (rw [if_pos (by decide +kernel)]; kernel_rfl) | (rw [if_neg (by decide +kernel)]; exact ⟨rfl, rfl⟩))
    (fun os started H enc _ => lifted os started H enc)

/-- ████ THE STATEMENT ████ -/
theorem proved : Rows.VerifyTellsSaid :=
  over
#print axioms proved
end Go.Proofs.YthiciofacaeddaaGreat.verifyTells
end
