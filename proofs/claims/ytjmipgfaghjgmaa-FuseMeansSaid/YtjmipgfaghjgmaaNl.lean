/-
  Code, words, bytes, numbers as arguments, by their contents.
  Words and bytes as arguments, by their contents.
-/
import Derived.Test.YtjmipgfaghjgmaaNe
import Derived.Test.YtjmipgfaghjgmaaMe
import Derived.Test.YtjmipgfaghjgmaaQc
section
namespace Go.Proofs.Ytjmipgfaghjgmaa
open Go Go.Sim Go.RowKit Go.ChangeShapes Go.WideShapes Go.Deep
set_option maxRecDepth 100000
set_option linter.unusedSimpArgs false
set_option linter.unusedVariables false

section
variable {H : Type} {enc : TypeId × Value → H} {W : World}
theorem nat8_of {n : Int} (h : (Lit.int .u8 n).wf = true) : n = (n.toNat : Int) := by
  simp [Lit.wf, IntKind.min, IntKind.max] at h; omega
theorem nat32_of {n : Int} (h : (Lit.int .u32 n).wf = true) : n = (n.toNat : Int) ∧ n.toNat < 4294967296 := by
  simp [Lit.wf, IntKind.min, IntKind.max] at h; omega
theorem el_instr (n : Nat) (cs : List Value) (x : DataW H × List MemPlace) (h : DataW.trod enc Try.prog W 0 (fun _ => true) true n 36 cs = some x) : ∃ a : Instr, cs = (eInstr.enc a).map toVal ∧ ∀ u ∈ eInstr.enc a, simpleV u = true := by
  obtain ⟨a, b, n', y, z, rfl, h0, h1⟩ := two_in Try.underlying36 (by kernel_rfl) rfl rfl (by kernel_rfl) (by kernel_rfl) h
  obtain ⟨m0, e0, _, w0⟩ := DataW.trod_int Try.underlying28 h0
  obtain ⟨m1, e1, _, w1⟩ := DataW.trod_int Try.underlying23 h1
  simp at e0 e1
  subst e0 e1
  refine ⟨⟨m0.toNat, m1.toNat⟩, ?_, by simp [simpleV]⟩
  show _ = [Value.int .u8 _, Value.int .u32 _]
  rw [← nat8_of w0, ← (nat32_of w1).1]
theorem code_in {b0 : Nat} {v : Value} {d : DataW H} {ps : List MemPlace} (hv : Value.okWide Try.prog W .any b0 22 v) (hT : DataW.Trod enc Try.prog W 0 (fun _ => true) true 22 v d ps) :
    ∃ c : List Instr, VRel (fun b => b < W.heap.size) W Bd.none_ (lst eInstr c) v ∧ c.length < 2 ^ 63 ∧ ∀ (j : Nat) ts ds, ts[j]? = some 22 → ds[j]? = some d → (DataW.weightsEach Try.prog ts ds).all (· ≤ reachBytes) = true → c.length ≤ 17592186043904 := by
  obtain ⟨fuel, hf⟩ := hT
  have hs := slice_shape (P := Try.prog) Try.underlying22 hv
  have hcell : v.cells.toList = [v] := by rcases hs with rfl | ⟨b, off, len, cap, rfl, _⟩ <;> rfl
  rw [hcell] at hf
  obtain ⟨c, o, r, l⟩ := list_in eInstr Try.underlying22 (by kernel_rfl) el_instr hs hf
  refine ⟨c, r, by simp only [maxLen] at l; omega, fun j ts ds h1 h2 h3 => ?_⟩
  have := weight_le Try.underlying22 hf r h1 h2 h3
  have hb : Try.prog.bytesOf 36 = 8 := by kernel_rfl
  rw [hb] at this
  omega
theorem u32_in {b0 : Nat} {v : Value} {d : DataW H} {ps : List MemPlace} (hv : Value.okWide Try.prog W .any b0 23 v) (hT : DataW.Trod enc Try.prog W 0 (fun _ => true) true 23 v d ps) :
    ∃ a : Nat, VRel (fun b => b < W.heap.size) W Bd.none_ (.int .u32 a) v ∧ a < 4294967296 := by
  obtain ⟨fuel, hf⟩ := hT
  obtain ⟨m, e, _, w⟩ := DataW.trod_int Try.underlying23 hf
  have hcell : v.cells.toList = [v] := by
    cases v with
    | agg xs => exfalso; simp [Value.okWide, Try.underlying23, Cell.okWide, Cell.ok] at hv
    | _ => rfl
  rw [hcell] at e
  have e' : v = Value.int .u32 m := by simpa using e
  subst e'
  refine ⟨m.toNat, ?_, (nat32_of w).2⟩
  simp only [VRel]
  rw [← (nat32_of w).1]
end
end Go.Proofs.Ytjmipgfaghjgmaa
end
section
namespace Go.Proofs.Ytjmipgfaghjgmaa
open Go Go.Sim Go.RowKit Go.ChangeShapes Go.WideShapes Go.Deep
set_option maxRecDepth 100000
set_option linter.unusedSimpArgs false
set_option linter.unusedVariables false
section
variable {H : Type} {enc : TypeId × Value → H} {W : World}
theorem el_word (n : Nat) (cs : List Value) (x : DataW H × List MemPlace) (h : DataW.trod enc Try.prog W 0 (fun _ => true) true n 23 cs = some x) : ∃ a : Nat, cs = (eW.enc a).map toVal ∧ ∀ u ∈ eW.enc a, simpleV u = true := by
  obtain ⟨m, rfl, _, hw⟩ := DataW.trod_int Try.underlying23 h
  refine ⟨m.toNat, ?_, by simp [simpleV]⟩
  show _ = [Value.int .u32 _]
  rw [← (nat32_of hw).1]
theorem el_byte (n : Nat) (cs : List Value) (x : DataW H × List MemPlace) (h : DataW.trod enc Try.prog W 0 (fun _ => true) true n 5 cs = some x) : ∃ a : Nat, cs = (eB.enc a).map toVal ∧ ∀ u ∈ eB.enc a, simpleV u = true := by
  obtain ⟨m, rfl, _, hw⟩ := DataW.trod_int Try.underlying5 h
  refine ⟨m.toNat, ?_, by simp [simpleV]⟩
  show _ = [Value.int .u8 _]
  rw [← nat8_of hw]
theorem words_in {b0 : Nat} {v : Value} {d : DataW H} {ps : List MemPlace} (hv : Value.okWide Try.prog W .any b0 24 v) (hT : DataW.Trod enc Try.prog W 0 (fun _ => true) true 24 v d ps) :
    ∃ c : List Nat, VRel (fun b => b < W.heap.size) W Bd.none_ (lst eW c) v ∧ ∀ (j : Nat) ts ds, ts[j]? = some 24 → ds[j]? = some d → (DataW.weightsEach Try.prog ts ds).all (· ≤ reachBytes) = true → c.length ≤ 35184372087808 := by
  obtain ⟨fuel, hf⟩ := hT
  have hs := slice_shape (P := Try.prog) Try.underlying24 hv
  have hcell : v.cells.toList = [v] := by rcases hs with rfl | ⟨b, off, len, cap, rfl, _⟩ <;> rfl
  rw [hcell] at hf
  obtain ⟨c, o, r, l⟩ := list_in eW Try.underlying24 (by kernel_rfl) el_word hs hf
  refine ⟨c, r, fun j ts ds h1 h2 h3 => ?_⟩
  have := weight_le Try.underlying24 hf r h1 h2 h3
  have hb : Try.prog.bytesOf 23 = 4 := by kernel_rfl
  rw [hb] at this
  omega
theorem raw_in {b0 : Nat} {v : Value} {d : DataW H} {ps : List MemPlace} (hv : Value.okWide Try.prog W .any b0 25 v) (hT : DataW.Trod enc Try.prog W 0 (fun _ => true) true 25 v d ps) :
    ∃ c : List Nat, VRel (fun b => b < W.heap.size) W Bd.none_ (lst eB c) v ∧ ∀ (j : Nat) ts ds, ts[j]? = some 25 → ds[j]? = some d → (DataW.weightsEach Try.prog ts ds).all (· ≤ reachBytes) = true → c.length ≤ 140737488351232 := by
  obtain ⟨fuel, hf⟩ := hT
  have hs := slice_shape (P := Try.prog) Try.underlying25 hv
  have hcell : v.cells.toList = [v] := by rcases hs with rfl | ⟨b, off, len, cap, rfl, _⟩ <;> rfl
  rw [hcell] at hf
  obtain ⟨c, o, r, l⟩ := list_in eB Try.underlying25 (by kernel_rfl) el_byte hs hf
  refine ⟨c, r, fun j ts ds h1 h2 h3 => ?_⟩
  have := weight_le Try.underlying25 hf r h1 h2 h3
  have hb : Try.prog.bytesOf 5 = 1 := by kernel_rfl
  rw [hb] at this
  omega
end
end Go.Proofs.Ytjmipgfaghjgmaa
end
