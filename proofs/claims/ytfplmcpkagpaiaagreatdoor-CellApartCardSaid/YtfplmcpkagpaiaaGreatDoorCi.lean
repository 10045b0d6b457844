/-
 Threaded code as an argument, by its contents, and how much it can weigh.
 An image as an argument, by its contents, and how much it can weigh.
-/
import Derived.Test.YtfplmcpkagpaiaaGreatDoorFf
import Derived.Test.YtfplmcpkagpaiaaGreatDoorGe
import Derived.Test.YtfplmcpkagpaiaaGreatDoorMe
import Derived.Test.YtfplmcpkagpaiaaGreatDoorIb
set_option maxRecDepth 100000
set_option linter.unusedSimpArgs false
set_option linter.unusedVariables false
section
namespace Go.Proofs.YtfplmcpkagpaiaaGreatDoor.Fl
open Go Go.Sim Go.RowKit Go.ChangeShapes Go.WideShapes Go.Deep
section
variable {H : Type} {enc : TypeId × Value → H} {W : World}
theorem nat8_of {n : Int} (h : (Lit.int .u8 n).wf = true) : n = (n.toNat : Int) ∧ n.toNat < 256 := by
 simp [Lit.wf, IntKind.min, IntKind.max] at h; omega
theorem nat32_of {n : Int} (h : (Lit.int .u32 n).wf = true) : n = (n.toNat : Int) ∧ n.toNat < 4294967296 := by
 simp [Lit.wf, IntKind.min, IntKind.max] at h; omega
abbrev ClF := { x : Cl // FCl x }
instance : Inhabited ClF := ⟨⟨⟨0, 0, 0, 0, 0, 0, 0⟩, by decide, by decide, by decide, by decide, by decide, by decide, by decide⟩⟩
def eClF : Enc ClF where
 enc i := eCl.enc i.1
 k := 7
 pos := by omega
 len := fun i => eCl.len i.1
 canon := fun i => eCl.canon i.1
 flat := fun i => eCl.flat i.1
 ok := fun i => eCl.ok i.1
theorem cat_clF (l : List ClF) : cat eClF l = cat eCl (l.map (·.1)) := by
 induction l with
 | nil => rfl
 | cons x l ih => rw [cat_cons, List.map_cons, cat_cons, ih]; rfl
theorem lst_clF (l : List ClF) : lst eClF l = lst eCl (l.map (·.1)) := by
 unfold lst; rw [cat_clF, List.length_map]
abbrev WordF := { n : Nat // n < 4294967296 }
instance : Inhabited WordF := ⟨⟨0, by omega⟩⟩
def eWordF : Enc WordF where
 enc i := eW.enc i.1
 k := 1
 pos := by omega
 len := fun i => eW.len i.1
 canon := fun i => eW.canon i.1
 flat := fun i => eW.flat i.1
 ok := fun i => eW.ok i.1
theorem cat_wordF (l : List WordF) : cat eWordF l = cat eW (l.map (·.1)) := by
 induction l with
 | nil => rfl
 | cons x l ih => rw [cat_cons, List.map_cons, cat_cons, ih]; rfl
theorem lst_wordF (l : List WordF) : lst eWordF l = lst eW (l.map (·.1)) := by
 unfold lst; rw [cat_wordF, List.length_map]
theorem el_word (n : Nat) (cs : List Value) (x : DataW H × List MemPlace) (h : DataW.trod enc Tryz.prog W 0 (fun _ => true) true n 25 cs = some x) : ∃ a : WordF, cs = (eWordF.enc a).map toVal ∧ ∀ u ∈ eWordF.enc a, simpleV u = true := by
 obtain ⟨m, rfl, _, hw⟩ := DataW.trod_int Tryz.underlying25 h
 refine ⟨⟨m.toNat, (nat32_of hw).2⟩, ?_, by simp [simpleV, eWordF]⟩
 show [Value.int .u32 m] = [Value.int .u32 (m.toNat : Int)]
 rw [← (nat32_of hw).1]
theorem one32 {n : Nat} {c : Value} {x : DataW H × List MemPlace} (h : DataW.trod enc Tryz.prog W 0 (fun _ => true) true n 25 [c] = some x) : ∃ m : Nat, c = .int .u32 (m : Int) ∧ m < 4294967296 := by
 obtain ⟨m, e, _, hw⟩ := DataW.trod_int Tryz.underlying25 h
 simp only [List.cons.injEq, and_true] at e
 exact ⟨m.toNat, by rw [← (nat32_of hw).1]; exact e, (nat32_of hw).2⟩
theorem one8 {t : TypeId} (ht : Tryz.prog.underlying t = some (.int .u8)) {n : Nat} {c : Value} {x : DataW H × List MemPlace} (h : DataW.trod enc Tryz.prog W 0 (fun _ => true) true n t [c] = some x) : ∃ m : Nat, c = .int .u8 (m : Int) ∧ m < 256 := by
 obtain ⟨m, e, _, hw⟩ := DataW.trod_int ht h
 simp only [List.cons.injEq, and_true] at e
 exact ⟨m.toNat, by rw [← (nat8_of hw).1]; exact e, (nat8_of hw).2⟩
theorem el_cell (n : Nat) (cs : List Value) (x : DataW H × List MemPlace) (h : DataW.trod enc Tryz.prog W 0 (fun _ => true) true n 46 cs = some x) : ∃ a : ClF, cs = (eClF.enc a).map toVal ∧ ∀ u ∈ eClF.enc a, simpleV u = true := by
 obtain ⟨xs, n1, rfl, _, hl, hxl, hf⟩ := DataW.trod_struct Tryz.underlying46 h
 have c7 : Tryz.prog.cellsOf 46 = 7 := by kernel_rfl
 rw [c7] at hl
 have hs : ∀ i, i < 2 → ∃ y, xs[i]? = some y := fun i hi => ⟨_, List.getElem?_eq_getElem (by rw [hxl]; exact hi)⟩
 match cs, hl with
 | [v0, v1, v2, v3, v4, v5, v6], _ =>
  obtain ⟨y0, hy0⟩ := hs 0 (by omega)
  obtain ⟨y1, hy1⟩ := hs 1 (by omega)
  have c6 : Tryz.prog.cellsOf 44 = 6 := by kernel_rfl
  have c1 : Tryz.prog.cellsOf 25 = 1 := by kernel_rfl
  have ck : Tryz.prog.cellsOf 41 = 1 := by kernel_rfl
  have co : Tryz.prog.cellsOf 42 = 1 := by kernel_rfl
  have g0 : DataW.trod enc Tryz.prog W 0 (fun _ => true) true n1 44 (([v0, v1, v2, v3, v4, v5, v6].drop 0).take (Tryz.prog.cellsOf 44)) = xs[0]? := hf 0 _ rfl
  rw [c6, hy0] at g0
  replace g0 : DataW.trod enc Tryz.prog W 0 (fun _ => true) true n1 44 [v0, v1, v2, v3, v4, v5] = some y0 := g0
  have g1 : DataW.trod enc Tryz.prog W 0 (fun _ => true) true n1 25 (([v0, v1, v2, v3, v4, v5, v6].drop 6).take (Tryz.prog.cellsOf 25)) = xs[1]? := hf 1 _ rfl
  rw [c1, hy1] at g1
  replace g1 : DataW.trod enc Tryz.prog W 0 (fun _ => true) true n1 25 [v6] = some y1 := g1
  obtain ⟨zs, n2, rfl, _, hl2, hxl2, hf2⟩ := DataW.trod_struct Tryz.underlying44 g0
  have hs2 : ∀ i, i < 6 → ∃ y, zs[i]? = some y := fun i hi => ⟨_, List.getElem?_eq_getElem (by rw [hxl2]; exact hi)⟩
  obtain ⟨z0, w0⟩ := hs2 0 (by omega)
  obtain ⟨z1, w1⟩ := hs2 1 (by omega)
  obtain ⟨z2, w2⟩ := hs2 2 (by omega)
  obtain ⟨z3, w3⟩ := hs2 3 (by omega)
  obtain ⟨z4, w4⟩ := hs2 4 (by omega)
  obtain ⟨z5, w5⟩ := hs2 5 (by omega)
  have f0 : DataW.trod enc Tryz.prog W 0 (fun _ => true) true n2 25 (([v0, v1, v2, v3, v4, v5].drop 0).take (Tryz.prog.cellsOf 25)) = zs[0]? := hf2 0 _ rfl
  rw [c1, w0] at f0
  replace f0 : DataW.trod enc Tryz.prog W 0 (fun _ => true) true n2 25 [v0] = some z0 := f0
  have f1 : DataW.trod enc Tryz.prog W 0 (fun _ => true) true n2 25 (([v0, v1, v2, v3, v4, v5].drop 1).take (Tryz.prog.cellsOf 25)) = zs[1]? := hf2 1 _ rfl
  rw [c1, w1] at f1
  replace f1 : DataW.trod enc Tryz.prog W 0 (fun _ => true) true n2 25 [v1] = some z1 := f1
  have f2 : DataW.trod enc Tryz.prog W 0 (fun _ => true) true n2 41 (([v0, v1, v2, v3, v4, v5].drop 2).take (Tryz.prog.cellsOf 41)) = zs[2]? := hf2 2 _ rfl
  rw [ck, w2] at f2
  replace f2 : DataW.trod enc Tryz.prog W 0 (fun _ => true) true n2 41 [v2] = some z2 := f2
  have f3 : DataW.trod enc Tryz.prog W 0 (fun _ => true) true n2 42 (([v0, v1, v2, v3, v4, v5].drop 3).take (Tryz.prog.cellsOf 42)) = zs[3]? := hf2 3 _ rfl
  rw [co, w3] at f3
  replace f3 : DataW.trod enc Tryz.prog W 0 (fun _ => true) true n2 42 [v3] = some z3 := f3
  have f4 : DataW.trod enc Tryz.prog W 0 (fun _ => true) true n2 25 (([v0, v1, v2, v3, v4, v5].drop 4).take (Tryz.prog.cellsOf 25)) = zs[4]? := hf2 4 _ rfl
  rw [c1, w4] at f4
  replace f4 : DataW.trod enc Tryz.prog W 0 (fun _ => true) true n2 25 [v4] = some z4 := f4
  have f5 : DataW.trod enc Tryz.prog W 0 (fun _ => true) true n2 25 (([v0, v1, v2, v3, v4, v5].drop 5).take (Tryz.prog.cellsOf 25)) = zs[5]? := hf2 5 _ rfl
  rw [c1, w5] at f5
  replace f5 : DataW.trod enc Tryz.prog W 0 (fun _ => true) true n2 25 [v5] = some z5 := f5
  obtain ⟨m0, rfl, l0⟩ := one32 f0
  obtain ⟨m1, rfl, l1⟩ := one32 f1
  obtain ⟨m2, rfl, l2⟩ := one8 Tryz.underlying41 f2
  obtain ⟨m3, rfl, l3⟩ := one8 Tryz.underlying42 f3
  obtain ⟨m4, rfl, l4⟩ := one32 f4
  obtain ⟨m5, rfl, l5⟩ := one32 f5
  obtain ⟨m6, rfl, l6⟩ := one32 g1
  exact ⟨⟨⟨m0, m1, m2, m3, m4, m5, m6⟩, l0, l1, l2, l3, l4, l5, l6⟩, rfl, by simp [simpleV, eClF]⟩
theorem thr_in {b0 : Nat} {v : Value} {d : DataW H} {ps : List MemPlace} (hv : Value.okWide Tryz.prog W .any b0 31 v) (hT : DataW.Trod enc Tryz.prog W 0 (fun _ => true) true 31 v d ps) :
  ∃ (l : List Cl) (bg : List Nat), (∀ y ∈ l, FCl y) ∧ VRel (fun b _ => b < W.heap.size) W Bd.none_ (.agg [lst eCl l, lst eW bg]) v ∧ ∀ (j : Nat) ts ds, ts[j]? = some 31 → ds[j]? = some d → (DataW.weightsEach Tryz.prog ts ds).all (· ≤ reachBytes) = true → l.length ≤ 5864062014634 ∧ bg.length ≤ 35184372087808 := by
 obtain ⟨cs, rfl, hlen, hcell⟩ := struct_cells (ts := [29, 23]) Tryz.underlying31 (by kernel_rfl) (by kernel_rfl) hv
 obtain ⟨fuel, hf⟩ := hT
 obtain ⟨xs, n, rfl, hx, hl, hxl, hfs⟩ := DataW.trod_struct Tryz.underlying31 hf
 have sh : ∀ (t e : TypeId) (c : Value), Tryz.prog.underlying t = some (.slice e) → Cell.okWide Tryz.prog W .any b0 t c → c = .slice none 0 0 ∨ ∃ b off len cap, c = .slice (some ⟨b, off, none⟩) len cap ∧ len ≤ cap := fun t e c hu hc =>
  slice_shape (P := Tryz.prog) (W := W) (r := .any) (base := b0) (t := t) hu (by simp only [Value.okWide, hu]; exact hc)
 have q0 : Tryz.prog.cellsOf 29 = 1 := by kernel_rfl
 have q1 : Tryz.prog.cellsOf 23 = 1 := by kernel_rfl
 match cs, hlen with
 | [c0, c1], _ =>
 match xs, hxl with
 | [(d0, p0), (d1, p1)], _ =>
  have g0 : DataW.trod enc Tryz.prog W 0 (fun _ => true) true n 29 (([c0, c1].drop 0).take (Tryz.prog.cellsOf 29)) = some (d0, p0) := hfs 0 _ rfl
  rw [q0] at g0
  replace g0 : DataW.trod enc Tryz.prog W 0 (fun _ => true) true n 29 [c0] = some (d0, p0) := g0
  have g1 : DataW.trod enc Tryz.prog W 0 (fun _ => true) true n 23 (([c0, c1].drop 1).take (Tryz.prog.cellsOf 23)) = some (d1, p1) := hfs 1 _ rfl
  rw [q1] at g1
  replace g1 : DataW.trod enc Tryz.prog W 0 (fun _ => true) true n 23 [c1] = some (d1, p1) := g1
  obtain ⟨l, o0, r0, l0⟩ := list_in eClF Tryz.underlying29 (by kernel_rfl) el_cell (sh 29 46 c0 Tryz.underlying29 (hcell 0 c0 29 rfl rfl)) g0
  obtain ⟨bg, o1, r1, l1⟩ := list_in eWordF Tryz.underlying23 (by kernel_rfl) el_word (sh 23 25 c1 Tryz.underlying23 (hcell 1 c1 23 rfl rfl)) g1
  have hd : d = .agg [d0, d1] := by
   have := congrArg Prod.fst hx
   simpa using this
  have hw : ∀ (t : TypeId) (e : DataW H) (j : Nat) (ts : List TypeId) (ds : List (DataW H)), ts[j]? = some 31 → ds[j]? = some d → (DataW.weightsEach Tryz.prog ts ds).all (· ≤ reachBytes) = true →
    (∃ k : Nat, ([29, 23] : List TypeId)[k]? = some t ∧ [d0, d1][k]? = some e) → ∀ x ∈ e.weights Tryz.prog t, x ≤ 140737488351232 := by
   intro t e j ts ds h1 h2 h3 ⟨k, k1, k2⟩ x hx'
   have hin : x ∈ d.weights Tryz.prog 31 := by
    rw [hd]
    unfold DataW.weights
    rw [Tryz.underlying31]
    exact weight_each (ts := [29, 23]) (ds := [d0, d1]) k1 k2 hx'
   exact of_decide_eq_true (List.all_eq_true.1 h3 x (weight_each h1 h2 hin))
  have e0 := lst_clF l
  have e1 := lst_wordF bg
  refine ⟨l.map (·.1), bg.map (·.1), fun y hy => ?_, ?_, fun j ts ds h1 h2 h3 => ⟨?_, ?_⟩⟩
  ·obtain ⟨z, _, rfl⟩ := List.mem_map.1 hy
   exact z.2
  ·rw [← e0, ← e1]
   unfold VRel
   refine ⟨_, rfl, ?_⟩
   simp only [ORelL]
   exact ⟨_, _, rfl, o0, r0, _, _, rfl, o1, r1, rfl⟩
  ·rw [List.length_map]
   rcases weight_of Tryz.underlying29 g0 r0 with rfl | ⟨x, hx', hle⟩
   ·simp
   ·have := hw _ _ j ts ds h1 h2 h3 ⟨0, rfl, rfl⟩ x hx'
    have hb : Tryz.prog.bytesOf 46 = 24 := by kernel_rfl
    rw [hb] at hle; omega
  ·rw [List.length_map]
   rcases weight_of Tryz.underlying23 g1 r1 with rfl | ⟨x, hx', hle⟩
   ·simp
   ·have := hw _ _ j ts ds h1 h2 h3 ⟨1, rfl, rfl⟩ x hx'
    have hb : Tryz.prog.bytesOf 25 = 4 := by kernel_rfl
    rw [hb] at hle; omega
end
end Go.Proofs.YtfplmcpkagpaiaaGreatDoor.Fl
end
section
namespace Go.Proofs.YtfplmcpkagpaiaaGreatDoor
open Go Go.Sim Go.RowKit Go.ChangeShapes Go.WideShapes Go.Deep
section
variable {H : Type} {enc : TypeId × Value → H} {W : World}
theorem u8_of {n : Int} (h : (Lit.int .u8 n).wf = true) : n = ((UInt8.ofNat n.toNat).toNat : Int) := by
 simp [Lit.wf, IntKind.min, IntKind.max] at h
 simp only [UInt8.toNat_ofNat']; omega
theorem u32_of {n : Int} (h : (Lit.int .u32 n).wf = true) : n = ((UInt32.ofNat n.toNat).toNat : Int) := by
 simp [Lit.wf, IntKind.min, IntKind.max] at h
 simp only [UInt32.toNat_ofNat']; omega
theorem el_u8 (n : Nat) (cs : List Value) (x : DataW H × List MemPlace) (h : DataW.trod enc Tryz.prog W 0 (fun _ => true) true n 5 cs = some x) : ∃ a : UInt8, cs = (eU8.enc a).map toVal ∧ ∀ u ∈ eU8.enc a, simpleV u = true := by
 obtain ⟨m, rfl, _, hw⟩ := DataW.trod_int Tryz.underlying5 h
 refine ⟨UInt8.ofNat m.toNat, ?_, by simp [simpleV]⟩
 show _ = [Value.int .u8 _]
 rw [← u8_of hw]
theorem el_u32 (n : Nat) (cs : List Value) (x : DataW H × List MemPlace) (h : DataW.trod enc Tryz.prog W 0 (fun _ => true) true n 25 cs = some x) : ∃ a : UInt32, cs = (eU32.enc a).map toVal ∧ ∀ u ∈ eU32.enc a, simpleV u = true := by
 obtain ⟨m, rfl, _, hw⟩ := DataW.trod_int Tryz.underlying25 h
 refine ⟨UInt32.ofNat m.toNat, ?_, by simp [simpleV]⟩
 show _ = [Value.int .u32 _]
 rw [← u32_of hw]
theorem el_instr (n : Nat) (cs : List Value) (x : DataW H × List MemPlace) (h : DataW.trod enc Tryz.prog W 0 (fun _ => true) true n 48 cs = some x) : ∃ a : Instr, cs = (eInstr.enc a).map toVal ∧ ∀ u ∈ eInstr.enc a, simpleV u = true := by
 obtain ⟨a, b, n', y, z, rfl, h0, h1⟩ := two_in Tryz.underlying48 (by kernel_rfl) rfl rfl (by kernel_rfl) (by kernel_rfl) h
 obtain ⟨m0, e0, _, w0⟩ := DataW.trod_int Tryz.underlying42 h0
 obtain ⟨m1, e1, _, w1⟩ := DataW.trod_int Tryz.underlying25 h1
 simp at e0 e1
 subst e0 e1
 refine ⟨⟨UInt8.ofNat m0.toNat, UInt32.ofNat m1.toNat⟩, ?_, by simp [simpleV]⟩
 show _ = [Value.int .u8 _, Value.int .u32 _]
 rw [← u8_of w0, ← u32_of w1]
theorem el_export (n : Nat) (cs : List Value) (x : DataW H × List MemPlace) (h : DataW.trod enc Tryz.prog W 0 (fun _ => true) true n 117 cs = some x) : ∃ a : Export, cs = (eExport.enc a).map toVal ∧ ∀ u ∈ eExport.enc a, simpleV u = true := by
 obtain ⟨a, b, n', y, z, rfl, h0, h1⟩ := two_in Tryz.underlying117 (by kernel_rfl) rfl rfl (by kernel_rfl) (by kernel_rfl) h
 obtain ⟨s, e0, _⟩ := DataW.trod_string Tryz.underlying9 h0
 obtain ⟨m1, e1, _, w1⟩ := DataW.trod_int Tryz.underlying25 h1
 simp at e0 e1
 subst e0 e1
 refine ⟨⟨s.data.toList, UInt32.ofNat m1.toNat⟩, ?_, by simp [simpleV]⟩
 show _ = [Value.string ⟨s.data.toList.toArray⟩, Value.int .u32 _]
 rw [← u32_of w1]
instance : Inhabited Instr := ⟨⟨0, 0⟩⟩
instance : Inhabited Export := ⟨⟨[], 0⟩⟩
theorem img_in {b0 : Nat} {v : Value} {d : DataW H} {ps : List MemPlace} (hv : Value.okWide Tryz.prog W .any b0 28 v) (hT : DataW.Trod enc Tryz.prog W 0 (fun _ => true) true 28 v d ps) :
  ∃ x : Img, VRel (fun b _ => b < W.heap.size) W Bd.none_ (imgV x) v ∧ ∀ (j : Nat) ts ds, ts[j]? = some 28 → ds[j]? = some d → (DataW.weightsEach Tryz.prog ts ds).all (· ≤ reachBytes) = true → x.code.length ≤ 17592186043904 ∧ x.jumps.length ≤ 35184372087808 ∧ x.data.length ≤ 140737488351232 ∧ x.names.length ≤ 5864062014634 := by
 obtain ⟨cs, rfl, hlen, hcell⟩ := struct_cells (ts := [22, 23, 24, 25, 25, 26]) Tryz.underlying28 (by kernel_rfl) (by kernel_rfl) hv
 obtain ⟨c0, c1, c2, c3, c4, c5, rfl⟩ := six hlen
 obtain ⟨fuel, hf⟩ := hT
 obtain ⟨xs, n, rfl, hx, hl, hxl, hfs⟩ := DataW.trod_struct Tryz.underlying28 hf
 have sh : ∀ (t e : TypeId) (c : Value), Tryz.prog.underlying t = some (.slice e) → Cell.okWide Tryz.prog W .any b0 t c → c = .slice none 0 0 ∨ ∃ b off len cap, c = .slice (some ⟨b, off, none⟩) len cap ∧ len ≤ cap := fun t e c hu hc =>
  slice_shape (P := Tryz.prog) (W := W) (r := .any) (base := b0) (t := t) hu (by simp only [Value.okWide, hu]; exact hc)
 have one1 : ∀ t : TypeId, t = 22 ∨ t = 23 ∨ t = 24 ∨ t = 25 ∨ t = 26 → Tryz.prog.cellsOf t = 1 := by
  rintro t (rfl | rfl | rfl | rfl | rfl) <;> kernel_rfl
 match xs, hxl with
 | [(d0, p0), (d1, p1), (d2, p2), (d3, p3), (d4, p4), (d5, p5)], _ =>
  have g0 : DataW.trod enc Tryz.prog W 0 (fun _ => true) true n 22 (([c0, c1, c2, c3, c4, c5].drop 0).take (Tryz.prog.cellsOf 22)) = some (d0, p0) := hfs 0 _ rfl
  rw [one1 22 (by simp)] at g0
  replace g0 : DataW.trod enc Tryz.prog W 0 (fun _ => true) true n 22 [c0] = some (d0, p0) := g0
  have g1 : DataW.trod enc Tryz.prog W 0 (fun _ => true) true n 23 (([c0, c1, c2, c3, c4, c5].drop 1).take (Tryz.prog.cellsOf 23)) = some (d1, p1) := hfs 1 _ rfl
  rw [one1 23 (by simp)] at g1
  replace g1 : DataW.trod enc Tryz.prog W 0 (fun _ => true) true n 23 [c1] = some (d1, p1) := g1
  have g2 : DataW.trod enc Tryz.prog W 0 (fun _ => true) true n 24 (([c0, c1, c2, c3, c4, c5].drop 2).take (Tryz.prog.cellsOf 24)) = some (d2, p2) := hfs 2 _ rfl
  rw [one1 24 (by simp)] at g2
  replace g2 : DataW.trod enc Tryz.prog W 0 (fun _ => true) true n 24 [c2] = some (d2, p2) := g2
  have g3 : DataW.trod enc Tryz.prog W 0 (fun _ => true) true n 25 (([c0, c1, c2, c3, c4, c5].drop 3).take (Tryz.prog.cellsOf 25)) = some (d3, p3) := hfs 3 _ rfl
  rw [one1 25 (by simp)] at g3
  replace g3 : DataW.trod enc Tryz.prog W 0 (fun _ => true) true n 25 [c3] = some (d3, p3) := g3
  have g4 : DataW.trod enc Tryz.prog W 0 (fun _ => true) true n 25 (([c0, c1, c2, c3, c4, c5].drop 4).take (Tryz.prog.cellsOf 25)) = some (d4, p4) := hfs 4 _ rfl
  rw [one1 25 (by simp)] at g4
  replace g4 : DataW.trod enc Tryz.prog W 0 (fun _ => true) true n 25 [c4] = some (d4, p4) := g4
  have g5 : DataW.trod enc Tryz.prog W 0 (fun _ => true) true n 26 (([c0, c1, c2, c3, c4, c5].drop 5).take (Tryz.prog.cellsOf 26)) = some (d5, p5) := hfs 5 _ rfl
  rw [one1 26 (by simp)] at g5
  replace g5 : DataW.trod enc Tryz.prog W 0 (fun _ => true) true n 26 [c5] = some (d5, p5) := g5
  obtain ⟨code, o0, r0, l0⟩ := list_in eInstr Tryz.underlying22 (by kernel_rfl) el_instr (sh 22 48 c0 Tryz.underlying22 (hcell 0 c0 22 rfl rfl)) g0
  obtain ⟨jumps, o1, r1, l1⟩ := list_in eU32 Tryz.underlying23 (by kernel_rfl) el_u32 (sh 23 25 c1 Tryz.underlying23 (hcell 1 c1 23 rfl rfl)) g1
  obtain ⟨data, o2, r2, l2⟩ := list_in eU8 Tryz.underlying24 (by kernel_rfl) el_u8 (sh 24 5 c2 Tryz.underlying24 (hcell 2 c2 24 rfl rfl)) g2
  obtain ⟨names, o5, r5, l5⟩ := list_in eExport Tryz.underlying26 (by kernel_rfl) el_export (sh 26 117 c5 Tryz.underlying26 (hcell 5 c5 26 rfl rfl)) g5
  obtain ⟨m3, e3, _, w3⟩ := DataW.trod_int Tryz.underlying25 g3
  obtain ⟨m4, e4, _, w4⟩ := DataW.trod_int Tryz.underlying25 g4
  replace e3 : [c3] = [Value.int .u32 m3] := e3
  replace e4 : [c4] = [Value.int .u32 m4] := e4
  simp only [List.cons.injEq, and_true] at e3 e4
  subst e3 e4
  have hd : d = .agg [d0, d1, d2, d3, d4, d5] := by
   have := congrArg Prod.fst hx
   simpa using this
  have hw : ∀ (t : TypeId) (e : DataW H) (j : Nat) (ts : List TypeId) (ds : List (DataW H)), ts[j]? = some 28 → ds[j]? = some d → (DataW.weightsEach Tryz.prog ts ds).all (· ≤ reachBytes) = true →
    (∃ k : Nat, ([22, 23, 24, 25, 25, 26] : List TypeId)[k]? = some t ∧ [d0, d1, d2, d3, d4, d5][k]? = some e) → ∀ x ∈ e.weights Tryz.prog t, x ≤ 140737488351232 := by
   intro t e j ts ds h1 h2 h3 ⟨k, k1, k2⟩ x hx'
   have hin : x ∈ d.weights Tryz.prog 28 := by
    rw [hd]
    unfold DataW.weights
    rw [Tryz.underlying28]
    exact weight_each (ts := [22, 23, 24, 25, 25, 26]) (ds := [d0, d1, d2, d3, d4, d5]) k1 k2 hx'
   exact of_decide_eq_true (List.all_eq_true.1 h3 x (weight_each h1 h2 hin))
  refine ⟨⟨code, jumps, data, UInt32.ofNat m3.toNat, UInt32.ofNat m4.toNat, names⟩, ?_, fun j ts ds h1 h2 h3 => ⟨?_, ?_, ?_, ?_⟩⟩
  ·unfold VRel
   refine ⟨_, rfl, ?_⟩
   simp only [ORelL]
   exact ⟨_, _, rfl, o0, r0, _, _, rfl, o1, r1, _, _, rfl, o2, r2, _, _, rfl, rfl, by simp only [VRel]; rw [← u32_of w3], _, _, rfl, rfl, by simp only [VRel]; rw [← u32_of w4], _, _, rfl, o5, r5, rfl⟩
  ·show code.length ≤ 17592186043904
   rcases weight_of Tryz.underlying22 g0 r0 with rfl | ⟨x, hx', hle⟩
   ·simp
   ·have := hw _ _ j ts ds h1 h2 h3 ⟨0, rfl, rfl⟩ x hx'
    have hb : Tryz.prog.bytesOf 48 = 8 := by kernel_rfl
    rw [hb] at hle; omega
  ·show jumps.length ≤ 35184372087808
   rcases weight_of Tryz.underlying23 g1 r1 with rfl | ⟨x, hx', hle⟩
   ·simp
   ·have := hw _ _ j ts ds h1 h2 h3 ⟨1, rfl, rfl⟩ x hx'
    have hb : Tryz.prog.bytesOf 25 = 4 := by kernel_rfl
    rw [hb] at hle; omega
  ·show data.length ≤ 140737488351232
   rcases weight_of Tryz.underlying24 g2 r2 with rfl | ⟨x, hx', hle⟩
   ·simp
   ·have := hw _ _ j ts ds h1 h2 h3 ⟨2, rfl, rfl⟩ x hx'
    have hb : Tryz.prog.bytesOf 5 = 1 := by kernel_rfl
    rw [hb] at hle; omega
  ·show names.length ≤ 5864062014634
   rcases weight_of Tryz.underlying26 g5 r5 with rfl | ⟨x, hx', hle⟩
   ·simp
   ·have := hw _ _ j ts ds h1 h2 h3 ⟨5, rfl, rfl⟩ x hx'
    have hb : Tryz.prog.bytesOf 117 = 24 := by kernel_rfl
    rw [hb] at hle; omega
end
end Go.Proofs.YtfplmcpkagpaiaaGreatDoor
end
