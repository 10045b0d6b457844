/-
  Code with its jumps, and a number, as arguments, by their contents.
-/
import Derived.Test.YtpfodignhibjgaaNh
import Derived.Test.YtpfodignhibjgaaMe
section
namespace Go.Proofs.Ytpfodignhibjgaa
open Go Go.Sim Go.RowKit Go.ChangeShapes Go.WideShapes Go.Deep
set_option maxRecDepth 100000
set_option linter.unusedSimpArgs false
set_option linter.unusedVariables false

section
variable {H : Type} {enc : TypeId × Value → H} {W : World}
theorem nat8_of {n : Int} (h : (Lit.int .u8 n).wf = true) : n = (n.toNat : Int) ∧ n.toNat < 256 := by
  simp [Lit.wf, IntKind.min, IntKind.max] at h; omega
theorem nat32_of {n : Int} (h : (Lit.int .u32 n).wf = true) : n = (n.toNat : Int) ∧ n.toNat < 4294967296 := by
  simp [Lit.wf, IntKind.min, IntKind.max] at h; omega
/-- An instruction that fits. -/
abbrev InsF := { i : Instr // insFits i }
instance : Inhabited InsF := ⟨⟨⟨0, 0⟩, by simp [insFits]⟩⟩
def eInsF : Enc InsF where
  enc i := eInstr.enc i.1
  k := 2
  pos := by omega
  len := fun i => eInstr.len i.1
  canon := fun i => eInstr.canon i.1
  flat := fun i => eInstr.flat i.1
  ok := fun i => eInstr.ok i.1
theorem cat_insF (l : List InsF) : cat eInsF l = cat eInstr (l.map (·.1)) := by
  induction l with
  | nil => rfl
  | cons x l ih => rw [cat_cons, List.map_cons, cat_cons, ih]; rfl
theorem lst_insF (l : List InsF) : lst eInsF l = lst eInstr (l.map (·.1)) := by
  unfold lst; rw [cat_insF, List.length_map]
abbrev WordF := { n : Nat // n < 4294967296 }
instance : Inhabited WordF := ⟨⟨0, by omega⟩⟩
def eWordF : Enc WordF where
  enc i := eW.enc i.1
  k := 1
  pos := by omega
  len := fun i => eW.len i.1
  canon := fun i => eW.canon i.1
  flat := fun i => eW.flat i.1
  ok := fun i => eW.ok i.1
theorem cat_wordF (l : List WordF) : cat eWordF l = cat eW (l.map (·.1)) := by
  induction l with
  | nil => rfl
  | cons x l ih => rw [cat_cons, List.map_cons, cat_cons, ih]; rfl
theorem lst_wordF (l : List WordF) : lst eWordF l = lst eW (l.map (·.1)) := by
  unfold lst; rw [cat_wordF, List.length_map]
theorem el_instr (n : Nat) (cs : List Value) (x : DataW H × List MemPlace) (h : DataW.trod enc Try.prog W 0 (fun _ => true) true n 35 cs = some x) : ∃ a : InsF, cs = (eInsF.enc a).map toVal ∧ ∀ u ∈ eInsF.enc a, simpleV u = true := by
  obtain ⟨a, b, n', y, z, rfl, h0, h1⟩ := two_in Try.underlying35 (by kernel_rfl) rfl rfl (by kernel_rfl) (by kernel_rfl) h
  obtain ⟨m0, e0, _, w0⟩ := DataW.trod_int Try.underlying32 h0
  obtain ⟨m1, e1, _, w1⟩ := DataW.trod_int Try.underlying33 h1
  simp at e0 e1
  subst e0 e1
  refine ⟨⟨⟨m0.toNat, m1.toNat⟩, (nat8_of w0).2, (nat32_of w1).2⟩, ?_, by simp [simpleV, eInsF]⟩
  show [Value.int .u8 m0, Value.int .u32 m1] = [Value.int .u8 (m0.toNat : Int), Value.int .u32 (m1.toNat : Int)]
  rw [← (nat8_of w0).1, ← (nat32_of w1).1]
theorem el_word (n : Nat) (cs : List Value) (x : DataW H × List MemPlace) (h : DataW.trod enc Try.prog W 0 (fun _ => true) true n 33 cs = some x) : ∃ a : WordF, cs = (eWordF.enc a).map toVal ∧ ∀ u ∈ eWordF.enc a, simpleV u = true := by
  obtain ⟨m, rfl, _, hw⟩ := DataW.trod_int Try.underlying33 h
  refine ⟨⟨m.toNat, (nat32_of hw).2⟩, ?_, by simp [simpleV, eWordF]⟩
  show [Value.int .u32 m] = [Value.int .u32 (m.toNat : Int)]
  rw [← (nat32_of hw).1]
theorem two {α : Type} {l : List α} (h : l.length = 2) : ∃ a b, l = [a, b] := by
  match l, h with
  | [a, b], _ => exact ⟨a, b, rfl⟩
theorem codeS_in {b0 : Nat} {v : Value} {d : DataW H} {ps : List MemPlace} (hv : Value.okWide Try.prog W .any b0 25 v) (hT : DataW.Trod enc Try.prog W 0 (fun _ => true) true 25 v d ps) :
    ∃ (code : List Instr) (jumps : List Nat), VRel (fun b => b < W.heap.size) W Bd.none_ (.agg [lst eInstr code, lst eW jumps]) v ∧ ∀ (j : Nat) ts ds, ts[j]? = some 25 → ds[j]? = some d → (DataW.weightsEach Try.prog ts ds).all (· ≤ reachBytes) = true → CodeFits code jumps := by
  obtain ⟨cs, rfl, hlen, hcell⟩ := struct_cells (ts := [22, 23]) Try.underlying25 (by kernel_rfl) (by kernel_rfl) hv
  obtain ⟨c0, c1, rfl⟩ := two hlen
  obtain ⟨fuel, hf⟩ := hT
  obtain ⟨xs, n, rfl, hx, hl, hxl, hfs⟩ := DataW.trod_struct Try.underlying25 hf
  have sh : ∀ (t e : TypeId) (c : Value), Try.prog.underlying t = some (.slice e) → Cell.okWide Try.prog W .any b0 t c → c = .slice none 0 0 ∨ ∃ b off len cap, c = .slice (some ⟨b, off, none⟩) len cap ∧ len ≤ cap := fun t e c hu hc =>
    slice_shape (P := Try.prog) (W := W) (r := .any) (base := b0) (t := t) hu (by simp only [Value.okWide, hu]; exact hc)
  have o22 : Try.prog.cellsOf 22 = 1 := by kernel_rfl
  have o23 : Try.prog.cellsOf 23 = 1 := by kernel_rfl
  match xs, hxl with
  | [(d0, p0), (d1, p1)], _ =>
    have g0 : DataW.trod enc Try.prog W 0 (fun _ => true) true n 22 (([c0, c1].drop 0).take (Try.prog.cellsOf 22)) = some (d0, p0) := hfs 0 _ rfl
    rw [o22] at g0
    replace g0 : DataW.trod enc Try.prog W 0 (fun _ => true) true n 22 [c0] = some (d0, p0) := g0
    have g1 : DataW.trod enc Try.prog W 0 (fun _ => true) true n 23 (([c0, c1].drop 1).take (Try.prog.cellsOf 23)) = some (d1, p1) := hfs 1 _ rfl
    rw [o23] at g1
    replace g1 : DataW.trod enc Try.prog W 0 (fun _ => true) true n 23 [c1] = some (d1, p1) := g1
    obtain ⟨code, q0, r0, l0⟩ := list_in eInsF Try.underlying22 (by kernel_rfl) el_instr (sh 22 35 c0 Try.underlying22 (hcell 0 c0 22 rfl rfl)) g0
    obtain ⟨jumps, q1, r1, l1⟩ := list_in eWordF Try.underlying23 (by kernel_rfl) el_word (sh 23 33 c1 Try.underlying23 (hcell 1 c1 23 rfl rfl)) g1
    refine ⟨code.map (·.1), jumps.map (·.1), ?_, fun j ts ds h1 h2 h3 => ⟨fun i hi => ?_, ?_, fun t ht => ?_⟩⟩
    · unfold VRel
      refine ⟨_, rfl, ?_⟩
      simp only [ORelL]
      rw [lst_insF] at r0
      rw [lst_wordF] at r1
      exact ⟨_, _, rfl, q0, r0, _, _, rfl, q1, r1, rfl⟩
    · obtain ⟨x, _, rfl⟩ := List.mem_map.mp hi
      exact x.2
    · rw [List.length_map]
      rcases weight_of Try.underlying23 g1 r1 with rfl | ⟨x, hx', hle⟩
      · simp
      · have hd : d = .agg [d0, d1] := by
          have := congrArg Prod.fst hx
          simpa using this
        have hin : x ∈ d.weights Try.prog 25 := by
          rw [hd]
          unfold DataW.weights
          rw [Try.underlying25]
          show x ∈ DataW.weightsEach Try.prog [22, 23] [d0, d1]
          simp only [DataW.weightsEach, List.mem_append]
          exact .inr (.inl hx')
        have := List.all_eq_true.1 h3 x (weight_each h1 h2 hin)
        have h4 : x ≤ 140737488351232 := of_decide_eq_true this
        have hb : Try.prog.bytesOf 33 = 4 := by kernel_rfl
        rw [hb] at hle
        omega
    · obtain ⟨x, _, rfl⟩ := List.mem_map.mp ht
      exact x.2
theorem int_in {b0 : Nat} {v : Value} {d : DataW H} {ps : List MemPlace} (hv : Value.okWide Try.prog W .any b0 3 v) (hT : DataW.Trod enc Try.prog W 0 (fun _ => true) true 3 v d ps) :
    ∃ a : Int, VRel (fun b => b < W.heap.size) W Bd.none_ (ii a) v := by
  obtain ⟨fuel, hf⟩ := hT
  obtain ⟨m, e, _, w⟩ := DataW.trod_int Try.underlying3 hf
  have hcell : v.cells.toList = [v] := by
    cases v with
    | agg xs => exfalso; simp [Value.okWide, Try.underlying3, Cell.okWide, Cell.ok] at hv
    | _ => rfl
  rw [hcell] at e
  have e' : v = Value.int .i64 m := by simpa using e
  subst e'
  exact ⟨m, by simp only [VRel]⟩
end
end Go.Proofs.Ytpfodignhibjgaa
end
