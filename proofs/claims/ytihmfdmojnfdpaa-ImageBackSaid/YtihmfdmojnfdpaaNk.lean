/-
  An image as an argument, by its contents.
-/
import Derived.Test.YtihmfdmojnfdpaaNj
import Derived.Test.YtihmfdmojnfdpaaMe
section
namespace Go.Proofs.Ytihmfdmojnfdpaa
open Go Go.Sim Go.RowKit Go.ChangeShapes Go.WideShapes Go.Deep
set_option maxRecDepth 100000
set_option linter.unusedSimpArgs false
set_option linter.unusedVariables false

section
variable {H : Type} {enc : TypeId × Value → H} {W : World}
theorem u8_of {n : Int} (h : (Lit.int .u8 n).wf = true) : n = ((UInt8.ofNat n.toNat).toNat : Int) := by
  simp [Lit.wf, IntKind.min, IntKind.max] at h
  simp only [UInt8.toNat_ofNat']; omega
theorem u32_of {n : Int} (h : (Lit.int .u32 n).wf = true) : n = ((UInt32.ofNat n.toNat).toNat : Int) := by
  simp [Lit.wf, IntKind.min, IntKind.max] at h
  simp only [UInt32.toNat_ofNat']; omega
theorem el_u8 (n : Nat) (cs : List Value) (x : DataW H × List MemPlace) (h : DataW.trod enc Try.prog W 0 (fun _ => true) true n 5 cs = some x) : ∃ a : UInt8, cs = (eU8.enc a).map toVal ∧ ∀ u ∈ eU8.enc a, simpleV u = true := by
  obtain ⟨m, rfl, _, hw⟩ := DataW.trod_int Try.underlying5 h
  refine ⟨UInt8.ofNat m.toNat, ?_, by simp [simpleV]⟩
  show _ = [Value.int .u8 _]
  rw [← u8_of hw]
theorem el_u32 (n : Nat) (cs : List Value) (x : DataW H × List MemPlace) (h : DataW.trod enc Try.prog W 0 (fun _ => true) true n 26 cs = some x) : ∃ a : UInt32, cs = (eU32.enc a).map toVal ∧ ∀ u ∈ eU32.enc a, simpleV u = true := by
  obtain ⟨m, rfl, _, hw⟩ := DataW.trod_int Try.underlying26 h
  refine ⟨UInt32.ofNat m.toNat, ?_, by simp [simpleV]⟩
  show _ = [Value.int .u32 _]
  rw [← u32_of hw]
theorem el_instr (n : Nat) (cs : List Value) (x : DataW H × List MemPlace) (h : DataW.trod enc Try.prog W 0 (fun _ => true) true n 74 cs = some x) : ∃ a : Instr, cs = (eInstr.enc a).map toVal ∧ ∀ u ∈ eInstr.enc a, simpleV u = true := by
  obtain ⟨a, b, n', y, z, rfl, h0, h1⟩ := two_in Try.underlying74 (by kernel_rfl) rfl rfl (by kernel_rfl) (by kernel_rfl) h
  obtain ⟨m0, e0, _, w0⟩ := DataW.trod_int Try.underlying72 h0
  obtain ⟨m1, e1, _, w1⟩ := DataW.trod_int Try.underlying26 h1
  simp at e0 e1
  subst e0 e1
  refine ⟨⟨UInt8.ofNat m0.toNat, UInt32.ofNat m1.toNat⟩, ?_, by simp [simpleV]⟩
  show _ = [Value.int .u8 _, Value.int .u32 _]
  rw [← u8_of w0, ← u32_of w1]
theorem el_export (n : Nat) (cs : List Value) (x : DataW H × List MemPlace) (h : DataW.trod enc Try.prog W 0 (fun _ => true) true n 76 cs = some x) : ∃ a : Export, cs = (eExport.enc a).map toVal ∧ ∀ u ∈ eExport.enc a, simpleV u = true := by
  obtain ⟨a, b, n', y, z, rfl, h0, h1⟩ := two_in Try.underlying76 (by kernel_rfl) rfl rfl (by kernel_rfl) (by kernel_rfl) h
  obtain ⟨s, e0, _⟩ := DataW.trod_string Try.underlying9 h0
  obtain ⟨m1, e1, _, w1⟩ := DataW.trod_int Try.underlying26 h1
  simp at e0 e1
  subst e0 e1
  refine ⟨⟨s.data.toList, UInt32.ofNat m1.toNat⟩, ?_, by simp [simpleV]⟩
  show _ = [Value.string ⟨s.data.toList.toArray⟩, Value.int .u32 _]
  rw [← u32_of w1]
instance : Inhabited Instr := ⟨⟨0, 0⟩⟩
instance : Inhabited Export := ⟨⟨[], 0⟩⟩
theorem img_in {b0 : Nat} {v : Value} {d : DataW H} {ps : List MemPlace} (hv : Value.okWide Try.prog W .any b0 29 v) (hT : DataW.Trod enc Try.prog W 0 (fun _ => true) true 29 v d ps) :
    ∃ x : Img, VRel (fun b => b < W.heap.size) W Bd.none_ (imgV x) v ∧ x.code.length ≤ maxLen ∧ x.jumps.length ≤ maxLen ∧ x.data.length ≤ maxLen ∧ x.names.length ≤ maxLen := by
  obtain ⟨cs, rfl, hlen, hcell⟩ := struct_cells (ts := [24, 25, 22, 26, 26, 27]) Try.underlying29 (by kernel_rfl) (by kernel_rfl) hv
  obtain ⟨c0, c1, c2, c3, c4, c5, rfl⟩ := six hlen
  obtain ⟨fuel, hf⟩ := hT
  obtain ⟨xs, n, rfl, hx, hl, hxl, hfs⟩ := DataW.trod_struct Try.underlying29 hf
  have sh : ∀ (t e : TypeId) (c : Value), Try.prog.underlying t = some (.slice e) → Cell.okWide Try.prog W .any b0 t c → c = .slice none 0 0 ∨ ∃ b off len cap, c = .slice (some ⟨b, off, none⟩) len cap ∧ len ≤ cap := fun t e c hu hc =>
    slice_shape (P := Try.prog) (W := W) (r := .any) (base := b0) (t := t) hu (by simp only [Value.okWide, hu]; exact hc)
  have one1 : ∀ t : TypeId, t = 24 ∨ t = 25 ∨ t = 22 ∨ t = 26 ∨ t = 27 → Try.prog.cellsOf t = 1 := by
    rintro t (rfl | rfl | rfl | rfl | rfl) <;> kernel_rfl
  match xs, hxl with
  | [x0, x1, x2, x3, x4, x5], _ =>
    have g0 : DataW.trod enc Try.prog W 0 (fun _ => true) true n 24 (([c0, c1, c2, c3, c4, c5].drop 0).take (Try.prog.cellsOf 24)) = some x0 := hfs 0 _ rfl
    rw [one1 24 (by simp)] at g0
    replace g0 : DataW.trod enc Try.prog W 0 (fun _ => true) true n 24 [c0] = some x0 := g0
    have g1 : DataW.trod enc Try.prog W 0 (fun _ => true) true n 25 (([c0, c1, c2, c3, c4, c5].drop 1).take (Try.prog.cellsOf 25)) = some x1 := hfs 1 _ rfl
    rw [one1 25 (by simp)] at g1
    replace g1 : DataW.trod enc Try.prog W 0 (fun _ => true) true n 25 [c1] = some x1 := g1
    have g2 : DataW.trod enc Try.prog W 0 (fun _ => true) true n 22 (([c0, c1, c2, c3, c4, c5].drop 2).take (Try.prog.cellsOf 22)) = some x2 := hfs 2 _ rfl
    rw [one1 22 (by simp)] at g2
    replace g2 : DataW.trod enc Try.prog W 0 (fun _ => true) true n 22 [c2] = some x2 := g2
    have g3 : DataW.trod enc Try.prog W 0 (fun _ => true) true n 26 (([c0, c1, c2, c3, c4, c5].drop 3).take (Try.prog.cellsOf 26)) = some x3 := hfs 3 _ rfl
    rw [one1 26 (by simp)] at g3
    replace g3 : DataW.trod enc Try.prog W 0 (fun _ => true) true n 26 [c3] = some x3 := g3
    have g4 : DataW.trod enc Try.prog W 0 (fun _ => true) true n 26 (([c0, c1, c2, c3, c4, c5].drop 4).take (Try.prog.cellsOf 26)) = some x4 := hfs 4 _ rfl
    rw [one1 26 (by simp)] at g4
    replace g4 : DataW.trod enc Try.prog W 0 (fun _ => true) true n 26 [c4] = some x4 := g4
    have g5 : DataW.trod enc Try.prog W 0 (fun _ => true) true n 27 (([c0, c1, c2, c3, c4, c5].drop 5).take (Try.prog.cellsOf 27)) = some x5 := hfs 5 _ rfl
    rw [one1 27 (by simp)] at g5
    replace g5 : DataW.trod enc Try.prog W 0 (fun _ => true) true n 27 [c5] = some x5 := g5
    obtain ⟨code, o0, r0, l0⟩ := list_in eInstr Try.underlying24 (by kernel_rfl) el_instr (sh 24 74 c0 Try.underlying24 (hcell 0 c0 24 rfl rfl)) g0
    obtain ⟨jumps, o1, r1, l1⟩ := list_in eU32 Try.underlying25 (by kernel_rfl) el_u32 (sh 25 26 c1 Try.underlying25 (hcell 1 c1 25 rfl rfl)) g1
    obtain ⟨data, o2, r2, l2⟩ := list_in eU8 Try.underlying22 (by kernel_rfl) el_u8 (sh 22 5 c2 Try.underlying22 (hcell 2 c2 22 rfl rfl)) g2
    obtain ⟨names, o5, r5, l5⟩ := list_in eExport Try.underlying27 (by kernel_rfl) el_export (sh 27 76 c5 Try.underlying27 (hcell 5 c5 27 rfl rfl)) g5
    obtain ⟨m3, e3, _, w3⟩ := DataW.trod_int Try.underlying26 g3
    obtain ⟨m4, e4, _, w4⟩ := DataW.trod_int Try.underlying26 g4
    replace e3 : [c3] = [Value.int .u32 m3] := e3
    replace e4 : [c4] = [Value.int .u32 m4] := e4
    simp only [List.cons.injEq, and_true] at e3 e4
    subst e3 e4
    refine ⟨⟨code, jumps, data, UInt32.ofNat m3.toNat, UInt32.ofNat m4.toNat, names⟩, ?_, l0, l1, l2, l5⟩
    unfold VRel
    refine ⟨_, rfl, ?_⟩
    simp only [ORelL]
    exact ⟨_, _, rfl, o0, r0, _, _, rfl, o1, r1, _, _, rfl, o2, r2, _, _, rfl, rfl, by simp only [VRel]; rw [← u32_of w3], _, _, rfl, rfl, by simp only [VRel]; rw [← u32_of w4], _, _, rfl, o5, r5, rfl⟩
end
end Go.Proofs.Ytihmfdmojnfdpaa
end
