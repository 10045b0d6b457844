/-
 An image as an argument, by its contents, and how much it can weigh.
-/
import Derived.Test.YtfplmcpkagpaiaaGreatDoorIb
import Derived.Test.YtfplmcpkagpaiaaGreatDoorMe
set_option maxRecDepth 100000
set_option linter.unusedSimpArgs false
set_option linter.unusedVariables false
section
namespace Go.Proofs.YtfplmcpkagpaiaaGreatDoor
open Go Go.Sim Go.RowKit Go.ChangeShapes Go.WideShapes Go.Deep
section
variable {H : Type} {enc : TypeId × Value → H} {W : World}
theorem u8_of {n : Int} (h : (Lit.int .u8 n).wf = true) : n = ((UInt8.ofNat n.toNat).toNat : Int) := by
 simp [Lit.wf, IntKind.min, IntKind.max] at h
 simp only [UInt8.toNat_ofNat']; omega
theorem u32_of {n : Int} (h : (Lit.int .u32 n).wf = true) : n = ((UInt32.ofNat n.toNat).toNat : Int) := by
 simp [Lit.wf, IntKind.min, IntKind.max] at h
 simp only [UInt32.toNat_ofNat']; omega
theorem el_u8 (n : Nat) (cs : List Value) (x : DataW H × List MemPlace) (h : DataW.trod enc Tryz.prog W 0 (fun _ => true) true n 5 cs = some x) : ∃ a : UInt8, cs = (eU8.enc a).map toVal ∧ ∀ u ∈ eU8.enc a, simpleV u = true := by
 obtain ⟨m, rfl, _, hw⟩ := DataW.trod_int Tryz.underlying5 h
 refine ⟨UInt8.ofNat m.toNat, ?_, by simp [simpleV]⟩
 show _ = [Value.int .u8 _]
 rw [← u8_of hw]
theorem el_u32 (n : Nat) (cs : List Value) (x : DataW H × List MemPlace) (h : DataW.trod enc Tryz.prog W 0 (fun _ => true) true n 25 cs = some x) : ∃ a : UInt32, cs = (eU32.enc a).map toVal ∧ ∀ u ∈ eU32.enc a, simpleV u = true := by
 obtain ⟨m, rfl, _, hw⟩ := DataW.trod_int Tryz.underlying25 h
 refine ⟨UInt32.ofNat m.toNat, ?_, by simp [simpleV]⟩
 show _ = [Value.int .u32 _]
 rw [← u32_of hw]
theorem el_instr (n : Nat) (cs : List Value) (x : DataW H × List MemPlace) (h : DataW.trod enc Tryz.prog W 0 (fun _ => true) true n 48 cs = some x) : ∃ a : Instr, cs = (eInstr.enc a).map toVal ∧ ∀ u ∈ eInstr.enc a, simpleV u = true := by
 obtain ⟨a, b, n', y, z, rfl, h0, h1⟩ := two_in Tryz.underlying48 (by kernel_rfl) rfl rfl (by kernel_rfl) (by kernel_rfl) h
 obtain ⟨m0, e0, _, w0⟩ := DataW.trod_int Tryz.underlying42 h0
 obtain ⟨m1, e1, _, w1⟩ := DataW.trod_int Tryz.underlying25 h1
 simp at e0 e1
 subst e0 e1
 refine ⟨⟨UInt8.ofNat m0.toNat, UInt32.ofNat m1.toNat⟩, ?_, by simp [simpleV]⟩
 show _ = [Value.int .u8 _, Value.int .u32 _]
 rw [← u8_of w0, ← u32_of w1]
theorem el_export (n : Nat) (cs : List Value) (x : DataW H × List MemPlace) (h : DataW.trod enc Tryz.prog W 0 (fun _ => true) true n 117 cs = some x) : ∃ a : Export, cs = (eExport.enc a).map toVal ∧ ∀ u ∈ eExport.enc a, simpleV u = true := by
 obtain ⟨a, b, n', y, z, rfl, h0, h1⟩ := two_in Tryz.underlying117 (by kernel_rfl) rfl rfl (by kernel_rfl) (by kernel_rfl) h
 obtain ⟨s, e0, _⟩ := DataW.trod_string Tryz.underlying9 h0
 obtain ⟨m1, e1, _, w1⟩ := DataW.trod_int Tryz.underlying25 h1
 simp at e0 e1
 subst e0 e1
 refine ⟨⟨s.data.toList, UInt32.ofNat m1.toNat⟩, ?_, by simp [simpleV]⟩
 show _ = [Value.string ⟨s.data.toList.toArray⟩, Value.int .u32 _]
 rw [← u32_of w1]
instance : Inhabited Instr := ⟨⟨0, 0⟩⟩
instance : Inhabited Export := ⟨⟨[], 0⟩⟩
theorem img_in {b0 : Nat} {v : Value} {d : DataW H} {ps : List MemPlace} (hv : Value.okWide Tryz.prog W .any b0 28 v) (hT : DataW.Trod enc Tryz.prog W 0 (fun _ => true) true 28 v d ps) :
  ∃ x : Img, VRel (fun b _ => b < W.heap.size) W Bd.none_ (imgV x) v ∧ ∀ (j : Nat) ts ds, ts[j]? = some 28 → ds[j]? = some d → (DataW.weightsEach Tryz.prog ts ds).all (· ≤ reachBytes) = true → x.code.length ≤ 17592186043904 ∧ x.jumps.length ≤ 35184372087808 ∧ x.data.length ≤ 140737488351232 ∧ x.names.length ≤ 5864062014634 := by
 obtain ⟨cs, rfl, hlen, hcell⟩ := struct_cells (ts := [22, 23, 24, 25, 25, 26]) Tryz.underlying28 (by kernel_rfl) (by kernel_rfl) hv
 obtain ⟨c0, c1, c2, c3, c4, c5, rfl⟩ := six hlen
 obtain ⟨fuel, hf⟩ := hT
 obtain ⟨xs, n, rfl, hx, hl, hxl, hfs⟩ := DataW.trod_struct Tryz.underlying28 hf
 have sh : ∀ (t e : TypeId) (c : Value), Tryz.prog.underlying t = some (.slice e) → Cell.okWide Tryz.prog W .any b0 t c → c = .slice none 0 0 ∨ ∃ b off len cap, c = .slice (some ⟨b, off, none⟩) len cap ∧ len ≤ cap := fun t e c hu hc =>
  slice_shape (P := Tryz.prog) (W := W) (r := .any) (base := b0) (t := t) hu (by simp only [Value.okWide, hu]; exact hc)
 have one1 : ∀ t : TypeId, t = 22 ∨ t = 23 ∨ t = 24 ∨ t = 25 ∨ t = 26 → Tryz.prog.cellsOf t = 1 := by
  rintro t (rfl | rfl | rfl | rfl | rfl) <;> kernel_rfl
 match xs, hxl with
 | [(d0, p0), (d1, p1), (d2, p2), (d3, p3), (d4, p4), (d5, p5)], _ =>
  have g0 : DataW.trod enc Tryz.prog W 0 (fun _ => true) true n 22 (([c0, c1, c2, c3, c4, c5].drop 0).take (Tryz.prog.cellsOf 22)) = some (d0, p0) := hfs 0 _ rfl
  rw [one1 22 (by simp)] at g0
  replace g0 : DataW.trod enc Tryz.prog W 0 (fun _ => true) true n 22 [c0] = some (d0, p0) := g0
  have g1 : DataW.trod enc Tryz.prog W 0 (fun _ => true) true n 23 (([c0, c1, c2, c3, c4, c5].drop 1).take (Tryz.prog.cellsOf 23)) = some (d1, p1) := hfs 1 _ rfl
  rw [one1 23 (by simp)] at g1
  replace g1 : DataW.trod enc Tryz.prog W 0 (fun _ => true) true n 23 [c1] = some (d1, p1) := g1
  have g2 : DataW.trod enc Tryz.prog W 0 (fun _ => true) true n 24 (([c0, c1, c2, c3, c4, c5].drop 2).take (Tryz.prog.cellsOf 24)) = some (d2, p2) := hfs 2 _ rfl
  rw [one1 24 (by simp)] at g2
  replace g2 : DataW.trod enc Tryz.prog W 0 (fun _ => true) true n 24 [c2] = some (d2, p2) := g2
  have g3 : DataW.trod enc Tryz.prog W 0 (fun _ => true) true n 25 (([c0, c1, c2, c3, c4, c5].drop 3).take (Tryz.prog.cellsOf 25)) = some (d3, p3) := hfs 3 _ rfl
  rw [one1 25 (by simp)] at g3
  replace g3 : DataW.trod enc Tryz.prog W 0 (fun _ => true) true n 25 [c3] = some (d3, p3) := g3
  have g4 : DataW.trod enc Tryz.prog W 0 (fun _ => true) true n 25 (([c0, c1, c2, c3, c4, c5].drop 4).take (Tryz.prog.cellsOf 25)) = some (d4, p4) := hfs 4 _ rfl
  rw [one1 25 (by simp)] at g4
  replace g4 : DataW.trod enc Tryz.prog W 0 (fun _ => true) true n 25 [c4] = some (d4, p4) := g4
  have g5 : DataW.trod enc Tryz.prog W 0 (fun _ => true) true n 26 (([c0, c1, c2, c3, c4, c5].drop 5).take (Tryz.prog.cellsOf 26)) = some (d5, p5) := hfs 5 _ rfl
  rw [one1 26 (by simp)] at g5
  replace g5 : DataW.trod enc Tryz.prog W 0 (fun _ => true) true n 26 [c5] = some (d5, p5) := g5
  obtain ⟨code, o0, r0, l0⟩ := list_in eInstr Tryz.underlying22 (by kernel_rfl) el_instr (sh 22 48 c0 Tryz.underlying22 (hcell 0 c0 22 rfl rfl)) g0
  obtain ⟨jumps, o1, r1, l1⟩ := list_in eU32 Tryz.underlying23 (by kernel_rfl) el_u32 (sh 23 25 c1 Tryz.underlying23 (hcell 1 c1 23 rfl rfl)) g1
  obtain ⟨data, o2, r2, l2⟩ := list_in eU8 Tryz.underlying24 (by kernel_rfl) el_u8 (sh 24 5 c2 Tryz.underlying24 (hcell 2 c2 24 rfl rfl)) g2
  obtain ⟨names, o5, r5, l5⟩ := list_in eExport Tryz.underlying26 (by kernel_rfl) el_export (sh 26 117 c5 Tryz.underlying26 (hcell 5 c5 26 rfl rfl)) g5
  obtain ⟨m3, e3, _, w3⟩ := DataW.trod_int Tryz.underlying25 g3
  obtain ⟨m4, e4, _, w4⟩ := DataW.trod_int Tryz.underlying25 g4
  replace e3 : [c3] = [Value.int .u32 m3] := e3
  replace e4 : [c4] = [Value.int .u32 m4] := e4
  simp only [List.cons.injEq, and_true] at e3 e4
  subst e3 e4
  have hd : d = .agg [d0, d1, d2, d3, d4, d5] := by
   have := congrArg Prod.fst hx
   simpa using this
  have hw : ∀ (t : TypeId) (e : DataW H) (j : Nat) (ts : List TypeId) (ds : List (DataW H)), ts[j]? = some 28 → ds[j]? = some d → (DataW.weightsEach Tryz.prog ts ds).all (· ≤ reachBytes) = true →
    (∃ k : Nat, ([22, 23, 24, 25, 25, 26] : List TypeId)[k]? = some t ∧ [d0, d1, d2, d3, d4, d5][k]? = some e) → ∀ x ∈ e.weights Tryz.prog t, x ≤ 140737488351232 := by
   intro t e j ts ds h1 h2 h3 ⟨k, k1, k2⟩ x hx'
   have hin : x ∈ d.weights Tryz.prog 28 := by
    rw [hd]
    unfold DataW.weights
    rw [Tryz.underlying28]
    exact weight_each (ts := [22, 23, 24, 25, 25, 26]) (ds := [d0, d1, d2, d3, d4, d5]) k1 k2 hx'
   exact of_decide_eq_true (List.all_eq_true.1 h3 x (weight_each h1 h2 hin))
  refine ⟨⟨code, jumps, data, UInt32.ofNat m3.toNat, UInt32.ofNat m4.toNat, names⟩, ?_, fun j ts ds h1 h2 h3 => ⟨?_, ?_, ?_, ?_⟩⟩
  ·unfold VRel
   refine ⟨_, rfl, ?_⟩
   simp only [ORelL]
   exact ⟨_, _, rfl, o0, r0, _, _, rfl, o1, r1, _, _, rfl, o2, r2, _, _, rfl, rfl, by simp only [VRel]; rw [← u32_of w3], _, _, rfl, rfl, by simp only [VRel]; rw [← u32_of w4], _, _, rfl, o5, r5, rfl⟩
  ·show code.length ≤ 17592186043904
   rcases weight_of Tryz.underlying22 g0 r0 with rfl | ⟨x, hx', hle⟩
   ·simp
   ·have := hw _ _ j ts ds h1 h2 h3 ⟨0, rfl, rfl⟩ x hx'
    have hb : Tryz.prog.bytesOf 48 = 8 := by kernel_rfl
    rw [hb] at hle; omega
  ·show jumps.length ≤ 35184372087808
   rcases weight_of Tryz.underlying23 g1 r1 with rfl | ⟨x, hx', hle⟩
   ·simp
   ·have := hw _ _ j ts ds h1 h2 h3 ⟨1, rfl, rfl⟩ x hx'
    have hb : Tryz.prog.bytesOf 25 = 4 := by kernel_rfl
    rw [hb] at hle; omega
  ·show data.length ≤ 140737488351232
   rcases weight_of Tryz.underlying24 g2 r2 with rfl | ⟨x, hx', hle⟩
   ·simp
   ·have := hw _ _ j ts ds h1 h2 h3 ⟨2, rfl, rfl⟩ x hx'
    have hb : Tryz.prog.bytesOf 5 = 1 := by kernel_rfl
    rw [hb] at hle; omega
  ·show names.length ≤ 5864062014634
   rcases weight_of Tryz.underlying26 g5 r5 with rfl | ⟨x, hx', hle⟩
   ·simp
   ·have := hw _ _ j ts ds h1 h2 h3 ⟨5, rfl, rfl⟩ x hx'
    have hb : Tryz.prog.bytesOf 117 = 24 := by kernel_rfl
    rw [hb] at hle; omega
end
end Go.Proofs.YtfplmcpkagpaiaaGreatDoor
end
