/-
  The law VerifySound: jumps.
  awake.
-/
import Derived.Test.YtnojknodojjnnaaGreatVd
import Derived.Test.YtnojknodojjnnaaGreatVc
import Derived.Test.YtnojknodojjnnaaGreatIf
section
namespace Go.Proofs.YtnojknodojjnnaaGreat
open Go Go.Sim
set_option maxRecDepth 100000
set_option maxHeartbeats 0
set_option linter.unusedSimpArgs false
set_option linter.unusedVariables false

theorem Jumps_walk {M : V} (hM : Solid M) (x : Img) (hl : x.code.length ≤ 16384) (hj : x.jumps.length ≤ 16384) (ds : Nat → Int) (hds : ∀ i : Nat, -1 ≤ ds i ∧ ds i ≤ 64) (Pf : Nat → Fl.PR) (nf : Nat → Int) (lg : Nat → Nat → Bool)
    (hD : ∀ i : Nat, i < 4294967296 → pureV E (om E) 9 false [M, .int .u32 i] = some (ii (ds i)))
    (hOf : ∀ i : Nat, i < x.code.length → pureV E (om E) 33 false [M, .int .u32 i] = some (.tuple [pnV (Pf i) (nf i), bb true]))
    (hL : ∀ i : Nat, i < x.code.length → ∀ t : Nat, pureV E (om E) 37 false [M, .int .u32 i, .int .u32 t] = some (bb (lg i t)))
    (hf : ∀ i : Nat, (h : i < x.code.length) → x.code[i].op.toNat = 7 → 0 ≤ ds i → ∀ t ∈ x.jumps, lg i t.toNat = decide ((Pf i).b < t.toNat ∧ t.toNat < (Pf i).e) ∧ ((Pf i).b < t.toNat → t.toNat < (Pf i).e → ds t.toNat = ds i - 1)) :
    pureV E (om E) 12 false [M, imgV x] = some (bb true) := by
  have h4 := hM.settle
  obtain ⟨h1, h2, h3⟩ := hM
  apply pu_12
  simp (disch := omega) [if_pos, if_neg, iteK_pos, iteK_neg, Tryz.f12]
  refine loop_chg (dyn := []) (fun n : Nat => [(5, ii n)]) (fun n => []) (fun n => []) (fun n => n ≤ x.code.length) (fun n => x.code.length - n) hint_12_0 (by kernel_rfl) ?_ 0 (by simp) (by simp)
  intro i hi IH
  rw [lpB_eq]
  by_cases h : i < x.code.length
  · have hDi := hD i (by omega)
    have e1 : (i : Int) % 4294967296 = i := by omega
    by_cases hop : x.code[i].op.toNat = 7
    · have hop' : (x.code[i].op.toNat : Int) = 7 := by omega
      by_cases hd : ds i < 0
      · simp (disch := omega) [if_pos, if_neg, iteK_pos, iteK_neg, h, h1, h2, h3, hDi, e1, hop', hd]
        exact IH (i + 1) _ _ (by omega) (by omega) (by simp)
      · have hO := hOf i h
        have hfi := hf i h hop (by omega)
        have hLi := hL i h
        have hdi := hds i
        have hw : IntKind.i64.wrap (ds i - 1) = ds i - 1 := wrapI (by omega) (by omega)
        simp (disch := omega) [if_pos, if_neg, iteK_pos, iteK_neg, h, h1, h2, h3, hDi, e1, hop', hd, hO]
        refine loop_chg (dyn := []) (fun n : Nat => [(8, ii n)]) (fun n => []) (fun n => []) (fun n => n ≤ x.jumps.length) (fun n => x.jumps.length - n) hint_12_1 (by kernel_rfl) ?_ 0 (by simp) (by simp)
        intro k hk IH2
        rw [lpB_eq]
        by_cases hkl : k < x.jumps.length
        · obtain ⟨f1, f2⟩ := hfi _ (List.getElem_mem hkl)
          have hDt := hD x.jumps[k].toNat x.jumps[k].toNat_lt
          have hLt := hLi x.jumps[k].toNat
          rw [f1] at hLt
          clear hfi hLi IH hf hL hOf hD hds
          by_cases b1 : (Pf i).b < x.jumps[k].toNat
          · by_cases b2 : x.jumps[k].toNat < (Pf i).e
            · have f3 := f2 b1 b2
              rw [f3] at hDt
              have Y : Hid ((ds i < 0) = False) := ⟨eq_false hd⟩
              clear f1 f2 f3
              simp (disch := omega) [if_pos, if_neg, iteK_pos, iteK_neg, hkl, h1, h2, h3, hDi, hDt, hLt, e1, b1, b2, hw, neqBool]
              exact IH2 (k + 1) _ _ (by omega) (by omega) (by simp)
            · clear f1 f2
              simp (disch := omega) [if_pos, if_neg, iteK_pos, iteK_neg, hkl, h1, h2, h3, hDi, hDt, hLt, e1, b1, b2, hw, neqBool]
              exact IH2 (k + 1) _ _ (by omega) (by omega) (by simp)
          · clear f1 f2
            simp (disch := omega) [if_pos, if_neg, iteK_pos, iteK_neg, hkl, h1, h2, h3, hDi, hDt, hLt, e1, b1, hw, neqBool]
            exact IH2 (k + 1) _ _ (by omega) (by omega) (by simp)
        · obtain rfl : k = x.jumps.length := by omega
          simp (disch := omega) [if_pos, if_neg, iteK_pos, iteK_neg, h4]
          exact IH (i + 1) _ _ (by omega) (by omega) (by simp)
    · have hop' : ¬ (x.code[i].op.toNat : Int) = 7 := by omega
      simp (disch := omega) [if_pos, if_neg, iteK_pos, iteK_neg, h, h1, h2, h3, hDi, e1, hop']
      exact IH (i + 1) _ _ (by omega) (by omega) (by simp)
  · obtain rfl : i = x.code.length := by omega
    simp (disch := omega) [if_pos, if_neg, iteK_pos, iteK_neg]
end Go.Proofs.YtnojknodojjnnaaGreat
end
section
namespace Go.Proofs.YtnojknodojjnnaaGreat
open Go Go.Sim
set_option maxRecDepth 100000
set_option maxHeartbeats 0
set_option linter.unusedSimpArgs false
set_option linter.unusedVariables false

@[simp] theorem strip_lst {α : Type} (e : Enc α) (l : List α) : V.strip (lst e l) = .scon [] 0 l.length false := by simp [lst]
/-- What a module of a lent image is known to be. -/
noncomputable abbrev knownS (x : Img) : List V := [.pcon [] 0, lst Fl.eI (nF x), .scon [] 0 x.code.length false, lst Fl.eI (dF x), .scon [] 0 x.code.length false, .scon [] 0 x.jumps.length false, .scon [] 0 x.data.length false, w32 x.zero.toNat, w32 x.stack.toNat,
  .scon [] 0 x.names.length false, ii (bitsI x), w64 (digestP x)]
noncomputable abbrev modS (x : Img) : V := .pcon [.pcon (knownS x) 0] 0
theorem Take_lent (x : Img) (h : Taken x) : pureV E (om E) 5 true [imgV x] = some (.tuple [modS x, ii 0, ii 0]) := by
  have hchk := h.chk
  obtain ⟨c1, c2, c3, c4, c5, c6, c7⟩ := check_ok hchk
  have hfit := fits_fl hchk
  have hC := fun lent => ImageCheck lent x (by omega) (by omega) (by omega) (by omega)
  simp only [hchk] at hC
  have hV := VCopied x (by omega) (by omega) (by omega) (by omega)
  have hF := fun lent => Fl.FindN_ok lent (names := x.names) (by omega) hfit h.find h.names
  rw [← lst_fl, ← ws_fl] at hF
  have hD := fun (B : List Blk) (r : Heap) (a1 a2 : V) (hv : viewArgs (B :: r) [a1, a2] = some [lst Fl.eInstr (cF x), lst Fl.eW (jF x)]) => Fl.Depths_at hfit h.find h.all hv
  rw [← lst_fl, ← ws_fl] at hD
  have hB := ImageBits_ok x hchk
  have hE := ImageEncode x hchk
  have hlen : (encP x).length < 2 ^ 40 := by have := enc_small hchk; omega
  have hS := fun lent => Sum lent (encP x) hlen
  apply pu_5
  simp (disch := omega) [if_pos, if_neg, iteK_pos, iteK_neg, Tryz.f5, hC, hV, hF]
  rw [hD _ _ _ _ (by simp)]
  simp (disch := omega) [if_pos, if_neg, iteK_pos, iteK_neg, hB, hE, hS]
  have F := taken_facts h
  have hnl : (Fl.cutF (cF x)).1.length = (Fl.needF (cF x) (jF x)).length := F.nlen.symm
  have hdl : x.code.length = (Fl.dsF (cF x) (jF x)).length := F.dlen.symm
  have hdig : IntKind.u64.wrap (IntKind.u64.wrap (((adler (encP x)).toNat : Int) * 4294967296) + (encP x).length) = (digestP x : Int) := by
    have := (adler (encP x)).toNat_lt
    have := enc_small hchk
    rw [IntKind.wrap_u64, IntKind.wrap_u64]
    unfold digestP
    omega
  rw [hdig, hnl, hdl]
  simp (disch := omega) [if_pos, if_neg, iteK_pos, iteK_neg, Fl.canon_lsts]
  exact ⟨hdl.symm, rfl⟩
/-- The image of the examples. -/
def sampleX : Img := ⟨[⟨3, 8⟩, ⟨8, 4⟩, ⟨5, 0⟩, ⟨4, 8⟩, ⟨3, 4⟩, ⟨8, 7⟩, ⟨4, 4⟩], [], [], 0, 64, [⟨[109, 97, 105, 110], 0⟩]⟩
def sampleY : Img := ⟨[⟨3, 8⟩, ⟨1, 0⟩, ⟨5, 0⟩, ⟨4, 8⟩, ⟨3, 4⟩, ⟨8, 7⟩, ⟨4, 4⟩], [], [], 0, 64, [⟨[109, 97, 105, 110], 0⟩]⟩
theorem insBad_of {i : Instr} (h : Fl.insBad (fl i) = 0) : insBad i = 0 := by rw [← insBad_fl]; exact h
theorem sampleX_chk : checkP sampleX = 0 := by
  have hc : codeFrom sampleX.code 0 = 0 := codeFrom_good fun i hi => insBad_of (by
    have : sampleX.code.all (fun i => decide (Fl.insBad (fl i) = 0)) = true := by decide
    simpa using List.all_eq_true.1 this i hi)
  have hn : namesFrom sampleX.names 0 = true := namesFrom_good fun j hj => by
    have : j = 0 := by simp [sampleX] at hj; omega
    subst this; decide
  unfold checkP
  rw [if_neg (by decide), hc]
  rw [if_neg (by decide), if_neg (by decide), if_neg (by decide), if_neg (by decide), if_neg (by decide), hn]
  rfl
theorem sampleX_find : Fl.FindOk (cF sampleX) (jF sampleX) := by
  refine ⟨enc_fl sampleX_chk, by decide, by decide, ?_, by intro i hi; simp [sampleX] at hi⟩
  have : (List.range 7).all (fun i => decide (Fl.faultAt (Fl.cutF (cF sampleX)) (cF sampleX) i = 0)) = true := by decide
  intro i hi
  simpa using List.all_eq_true.1 this i (List.mem_range.mpr hi)
theorem sampleX_names : Fl.NamesAt (cF sampleX) sampleX.names := by
  intro i hi
  have : i = 0 := by simp [sampleX] at hi; omega
  subst this
  exact (by decide : Fl.beginsF (Fl.cutF (cF sampleX)) 0 = true)
theorem sampleX_all : Fl.AllOk (cF sampleX) (jF sampleX) := by
  intro i hi
  have hn : (Fl.cutF (cF sampleX)).1.length = 2 := by rfl
  rw [hn] at hi
  have : i = 0 ∨ i = 1 := by omega
  rcases this with rfl | rfl
  · rfl
  · rfl
theorem sampleX_ok : Taken sampleX := ⟨sampleX_chk, sampleX_find, sampleX_names, sampleX_all⟩
theorem sampleX_ds : dF sampleX = [0, 0, 1, 1, 0, 0, 1] := by rfl
theorem sampleY_chk : checkP sampleY = 0 := by
  have hc : codeFrom sampleY.code 0 = 0 := codeFrom_good fun i hi => insBad_of (by
    have : sampleY.code.all (fun i => decide (Fl.insBad (fl i) = 0)) = true := by decide
    simpa using List.all_eq_true.1 this i hi)
  have hn : namesFrom sampleY.names 0 = true := namesFrom_good fun j hj => by
    have : j = 0 := by simp [sampleY] at hj; omega
    subst this; decide
  unfold checkP
  rw [if_neg (by decide), hc]
  rw [if_neg (by decide), if_neg (by decide), if_neg (by decide), if_neg (by decide), if_neg (by decide), hn]
  rfl
theorem sampleY_find : Fl.FindOk (cF sampleY) (jF sampleY) := by
  refine ⟨enc_fl sampleY_chk, by decide, by decide, ?_, by intro i hi; simp [sampleY] at hi⟩
  have : (List.range 7).all (fun i => decide (Fl.faultAt (Fl.cutF (cF sampleY)) (cF sampleY) i = 0)) = true := by decide
  intro i hi
  simpa using List.all_eq_true.1 this i (List.mem_range.mpr hi)
theorem sampleY_names : Fl.NamesAt (cF sampleY) sampleY.names := by
  intro i hi
  have : i = 0 := by simp [sampleY] at hi; omega
  subst this
  exact (by decide : Fl.beginsF (Fl.cutF (cF sampleY)) 0 = true)
theorem sampleY_take (lent) : pureV E (om E) 5 lent [imgV sampleY] = some (.tuple [.nilptr, ii 2, ii 140]) := by
  have h1 : (Fl.walkN (cF sampleY) (Fl.cutF (cF sampleY)) (Fl.tgts (cF sampleY) (jF sampleY)) 0).at_ = 2 := by rfl
  have h2 : (Fl.walkN (cF sampleY) (Fl.cutF (cF sampleY)) (Fl.tgts (cF sampleY) (jF sampleY)) 0).e = 140 := by rfl
  have := Take_flow lent sampleY sampleY_chk sampleY_find sampleY_names 0 (by decide) (fun k hk => by omega) (by rw [h2]; omega)
  rw [h1, h2] at this
  exact this
abbrev sampleB : List Blk := [.row [.sref 0 1 0 7 0 (2, true), .nilslice, .nilslice, .int .u32 0, .int .u32 64, .sref 0 2 0 1 0 (2, true)] 0 6 false false,
  .row [.int .u8 3, .int .u32 8, .int .u8 8, .int .u32 4, .int .u8 5, .int .u32 0, .int .u8 4, .int .u32 8, .int .u8 3, .int .u32 4, .int .u8 8, .int .u32 7, .int .u8 4, .int .u32 4] 0 2 true true,
  .row [.str [109, 97, 105, 110], .int .u32 0] 0 2 true true]
theorem Sample_body : bodyV E (om E) 29 [] [[]] = some (.agg [.sref 0 1 0 7 0 (2, true), .nilslice, .nilslice, .int .u32 0, .int .u32 64, .sref 0 2 0 1 0 (2, true)], [sampleB]) := by
  apply bo_29
  simp (config := {maxSteps := 3000000}) (disch := omega) [Tryz.f29]
theorem eq_nilM (x y : Operand) : binO E .eql 29 x y .nilptr .nilptr = some (.bool true) := by
  show binV E .eql 29 .nilptr .nilptr = some (.bool true)
  have h : E.P.underlying 29 = some (.pointer 78) := by kernel_rfl
  unfold binV
  simp [eqV, h]
section
variable (nd ds : List Int) (n1 n2 n3 n4 : Nat) (z t b dg : Int)
abbrev modT (nd ds : List Int) (n1 n2 n3 n4 : Nat) (z t b dg : Int) : V := .pcon [.pcon [.pcon [] 0, lst Fl.eI nd, .scon [] 0 n1 false, lst Fl.eI ds, .scon [] 0 n1 false, .scon [] 0 n2 false, .scon [] 0 n3 false, .int .u32 z, .int .u32 t, .scon [] 0 n4 false, ii b, .int .u64 dg] 0] 0
theorem TAll : pureV E (om E) 30 false [modT nd ds n1 n2 n3 n4 z t b dg] = some (.pcon [.pcon [] 0, lst Fl.eI nd, .scon [] 0 n1 false, lst Fl.eI ds, .scon [] 0 n1 false, .scon [] 0 n2 false, .scon [] 0 n3 false, .int .u32 z, .int .u32 t, .scon [] 0 n4 false, ii b, .int .u64 dg] 0) := by
  apply pu_30
  simp (disch := omega) [if_pos, if_neg, iteK_pos, iteK_neg, Tryz.f30, eq_pconM, eq_pconK]
theorem TCount : pureV E (om E) 10 false [modT nd ds n1 n2 n3 n4 z t b dg] = some (ii n1) := by
  have hA := TAll nd ds n1 n2 n3 n4 z t b dg
  apply pu_10
  simp (disch := omega) [if_pos, if_neg, iteK_pos, iteK_neg, Tryz.f10, hA]
theorem TDDepth (hl : ds.length ≤ 16384) (i : Nat) (hi : i < 4294967296) : pureV E (om E) 32 false [.agg [.scon [] 0 n1 false, lst Fl.eI ds], .int .u32 i] = some (ii (depF ds i)) := by
  apply pu_32
  unfold depF
  by_cases h : i < ds.length
  · rw [Fl.getD_lt h]
    simp (disch := omega) [if_pos, if_neg, iteK_pos, iteK_neg, Tryz.f32, h, Fl.eI_get]
  · rw [Fl.getD_ge (by omega)]
    simp (disch := omega) [if_pos, if_neg, iteK_pos, iteK_neg, Tryz.f32, h]
theorem TDepth (hl : ds.length ≤ 16384) (i : Nat) (hi : i < 4294967296) : pureV E (om E) 9 false [modT nd ds n1 n2 n3 n4 z t b dg, .int .u32 i] = some (ii (depF ds i)) := by
  have hA := TAll nd ds n1 n2 n3 n4 z t b dg
  have hD := TDDepth ds n1 hl i hi
  apply pu_9
  simp (disch := omega) [if_pos, if_neg, iteK_pos, iteK_neg, Tryz.f9, hA, hD]
end
theorem Awake : pureV E (om E) 7 false [] = some (bb true) := by
  have hT := Take_lent sampleX sampleX_ok
  have hY := sampleY_take true
  have hm : modS sampleX = modT (nF sampleX) [0, 0, 1, 1, 0, 0, 1] 7 0 0 1 0 64 (bitsI sampleX) (digestP sampleX) := by
    unfold modT
    rw [← sampleX_ds]
    rfl
  rw [hm] at hT
  generalize nF sampleX = nd at *
  generalize (bitsI sampleX : Int) = b at *
  generalize (digestP sampleX : Int) = dg at *
  have hc := TCount nd [0, 0, 1, 1, 0, 0, 1] 7 0 0 1 0 64 b dg
  have hd : pureV E (om E) 9 false [modT nd [0, 0, 1, 1, 0, 0, 1] 7 0 0 1 0 64 b dg, .int .u32 3] = some (ii 1) := TDepth nd [0, 0, 1, 1, 0, 0, 1] 7 0 0 1 0 64 b dg (by decide) 3 (by decide)
  have hc : pureV E (om E) 10 false [modT nd [0, 0, 1, 1, 0, 0, 1] 7 0 0 1 0 64 b dg] = some (ii 7) := hc
  generalize hM : modT nd [0, 0, 1, 1, 0, 0, 1] 7 0 0 1 0 64 b dg = M at *
  have hMs : Solid M := by rw [← hM]; exact ⟨by simp, by simp, by simp⟩
  have heq : ∀ x y, binO E .eql 29 x y M .nilptr = some (.bool false) := fun x y => by rw [← hM]; exact eq_pconM _ _ _ _
  obtain ⟨h1, h2, h3⟩ := hMs
  have cutX : V.canonL (cutCells [.int .u8 3, .int .u32 8, .int .u8 8, .int .u32 4, .int .u8 5, .int .u32 0, .int .u8 4, .int .u32 8, .int .u8 3, .int .u32 4, .int .u8 8, .int .u32 7, .int .u8 4, .int .u32 4] 0 7 2) = [.int .u8 3, .int .u32 8, .int .u8 8, .int .u32 4, .int .u8 5, .int .u32 0, .int .u8 4, .int .u32 8, .int .u8 3, .int .u32 4, .int .u8 8, .int .u32 7, .int .u8 4, .int .u32 4] := by rfl
  have cutY : V.canonL (cutCells [.int .u8 3, .int .u32 8, .int .u8 1, .int .u32 0, .int .u8 5, .int .u32 0, .int .u8 4, .int .u32 8, .int .u8 3, .int .u32 4, .int .u8 8, .int .u32 7, .int .u8 4, .int .u32 4] 0 7 2) = [.int .u8 3, .int .u32 8, .int .u8 1, .int .u32 0, .int .u8 5, .int .u32 0, .int .u8 4, .int .u32 8, .int .u8 3, .int .u32 4, .int .u8 8, .int .u32 7, .int .u8 4, .int .u32 4] := by rfl
  have cutN : V.canonL (cutCells [.str [109, 97, 105, 110], .int .u32 0] 0 1 2) = [.str [109, 97, 105, 110], .int .u32 0] := by rfl
  have hX : imgV sampleX = .agg [.scon [.int .u8 3, .int .u32 8, .int .u8 8, .int .u32 4, .int .u8 5, .int .u32 0, .int .u8 4, .int .u32 8, .int .u8 3, .int .u32 4, .int .u8 8, .int .u32 7, .int .u8 4, .int .u32 4] 0 7 false,
    .scon [] 0 0 false, .scon [] 0 0 false, .int .u32 0, .int .u32 64, .scon [.str [109, 97, 105, 110], .int .u32 0] 0 1 false] := by rfl
  have hX' : imgV sampleY = .agg [.scon [.int .u8 3, .int .u32 8, .int .u8 1, .int .u32 0, .int .u8 5, .int .u32 0, .int .u8 4, .int .u32 8, .int .u8 3, .int .u32 4, .int .u8 8, .int .u32 7, .int .u8 4, .int .u32 4] 0 7 false,
    .scon [] 0 0 false, .scon [] 0 0 false, .int .u32 0, .int .u32 64, .scon [.str [109, 97, 105, 110], .int .u32 0] 0 1 false] := by rfl
  rw [hX] at hT
  rw [hX'] at hY
  apply pu_7
  simp (config := {maxSteps := 3000000}) (disch := omega) [Tryz.f7, call_29, Sample_body, cutX, cutY, cutN, hT, hY, hc, hd, heq, eq_nilM, h1, h2, h3, depF]
end Go.Proofs.YtnojknodojjnnaaGreat
end
