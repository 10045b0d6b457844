/-
  The law VerifySound, walked.
  An image as an argument, by its contents, and how much it can weigh.
-/
import Derived.Test.YtnojknodojjnnaaGreatVe
import Derived.Test.YtnojknodojjnnaaGreatIc
import Derived.Test.YtnojknodojjnnaaGreatMe
section
namespace Go.Proofs.YtnojknodojjnnaaGreat
open Go Go.Sim
set_option maxRecDepth 100000
set_option maxHeartbeats 0
set_option linter.unusedSimpArgs false
set_option linter.unusedVariables false

/-- Where the procedure of a number begins, or the code ends. -/
def nAt (s : Fl.PRs) (k : Nat) : Nat := if k = 0 then 0 else (Fl.prOf s (k - 1)).e
theorem Law_walk (x : Img) (hl1 : x.code.length ≤ 17592186043904) (hl2 : x.jumps.length ≤ 35184372087808) (hl3 : x.data.length ≤ 140737488351232) (hl4 : x.names.length ≤ 5864062014634)
    {M : V} (hM : Solid M) (s : Fl.PRs) (nd : List Int) (ds : Nat → Int) (hn : x.code.length ≤ 16384) (hs : s.1.length ≤ 16384) (hnd : nd.length = s.1.length)
    (hT : pureV E (om E) 5 false [imgV x] = some (.tuple [M, ii 0, ii 0]))
    (heq : ∀ p q, binO E .eql 29 p q M .nilptr = some (.bool false))
    (hP : pureV E (om E) 8 false [M] = some (lst ePN (s.1.zip nd)))
    (hC : pureV E (om E) 10 false [M] = some (ii x.code.length))
    (hD : ∀ i : Nat, i < 4294967296 → pureV E (om E) 9 false [M, .int .u32 i] = some (ii (ds i)))
    (hS : ∀ i : Nat, i < x.code.length → pureV E (om E) 11 false [M, .int .u32 i] = some (bb true))
    (hJ : pureV E (om E) 12 false [M, imgV x] = some (bb true))
    (hch : ∀ k, (h : k < s.1.length) → s.1[k].b = nAt s k ∧ s.1[k].b + 2 ≤ s.1[k].e ∧ ds s.1[k].b = 0 ∧ s.1[k].e ≤ 16384)
    (hend : nAt s s.1.length = x.code.length) :
    pureV E (om E) 3 false [imgV x] = some (bb true) := by
  have hL := Lend x hl1 hl2 hl3 hl4
  obtain ⟨h1, h2, h3⟩ := hM
  have hz : (s.1.zip nd).length = s.1.length := by simp; omega
  apply pu_3
  simp (disch := omega) [if_pos, if_neg, iteK_pos, iteK_neg, Tryz.f3, hL, hT, heq, hP, h1, h2, h3]
  refine loop_chg (dyn := []) (fun k : Nat => [(6, ii (nAt s k)), (8, ii k)]) (fun n => []) (fun n => []) (fun k => k ≤ s.1.length) (fun k => s.1.length - k) hint_3_0 (by kernel_rfl) ?_ 0 (by simp) (by simp [nAt])
  intro k hk IH
  rw [lpB_eq]
  by_cases h : k < s.1.length
  · obtain ⟨c1, c2, c3, c4⟩ := hch k h
    have hnk : nAt s (k + 1) = s.1[k].e := by unfold nAt; rw [if_neg (by omega), Nat.add_sub_cancel]; exact congrArg _ (Fl.getD_lt h)
    have hDk := hD s.1[k].b (by omega)
    rw [c3, c1] at hDk
    rw [c1] at c2
    have d1 : ¬ s.1[k].e < nAt s k + 2 := by omega
    have d2 : ((nAt s k : Int) + 2) % 4294967296 = (nAt s k : Int) + 2 := by omega
    have d3 : ¬ (s.1[k].e : Int) < (nAt s k : Int) + 2 := by omega
    have d4 : IntKind.u32.wrap ((nAt s k : Int) + 2) = (nAt s k : Int) + 2 := by rw [IntKind.wrap_u32]; omega
    have d5 : IntKind.i64.wrap (s.1[k].e : Int) = s.1[k].e := wrapI (by omega) (by omega)
    clear c2 c3 c4
    have hkn : k < nd.length := by omega
    simp (disch := omega) [if_pos, if_neg, iteK_pos, iteK_neg, h, hz, hkn, c1, hDk, h1, h2, h3, d1, d2, d3, d4, d5]
    refine IH (k + 1) _ _ (by omega) (by omega) ?_
    rw [hnk]
    simp
  · obtain rfl : k = s.1.length := by omega
    clear IH
    rw [hend]
    simp (disch := omega) [if_pos, if_neg, iteK_pos, iteK_neg, hz, hC, h1, h2, h3]
    refine loop_chg (dyn := []) (fun i : Nat => [(9, ii i)]) (fun n => []) (fun n => []) (fun i => i ≤ x.code.length) (fun i => x.code.length - i) hint_3_1 (by kernel_rfl) ?_ 0 (by simp) (by simp)
    intro i hi IH
    rw [lpB_eq]
    by_cases hlt : i < x.code.length
    · have e1 : (i : Int) % 4294967296 = i := by omega
      simp (disch := omega) [if_pos, if_neg, iteK_pos, iteK_neg, hlt, e1, hS, h1, h2, h3]
      exact IH (i + 1) _ _ (by omega) (by omega) (by simp)
    · obtain rfl : i = x.code.length := by omega
      simp (disch := omega) [if_pos, if_neg, iteK_pos, iteK_neg, hJ, Awake, h1, h2, h3]
theorem Info_fl (lent) {op : Nat} (h : isOp op = true) : pureV E (om E) 34 lent [.int .u8 op] = some (.tuple [.agg [.str (Fl.rowOf op).word, .int .i64 (Fl.rowOf op).width, .int .u32 (Fl.rowOf op).most, .int .i64 (Fl.takesF op), .int .i64 (Fl.givesF op), .int .u8 (Fl.kindF op)], bb true]) := by
  have := Fl.Info lent op
  rw [isOp_fl, h, Fl.rowV, Fl.takes_eq, Fl.gives_eq, Fl.kind_eq] at this
  exact this
theorem begins_eq {x : Img} (F : TakenFacts x) {i : Nat} (hi : i < x.code.length) : Fl.beginsF (sF x) i = decide (i = (Fl.prOf (sF x) (Fl.ofI (sF x) i)).b) := by
  unfold Fl.beginsF
  have := F.cut.len
  congr 1
  apply propext
  constructor
  · rintro ⟨_, h⟩; exact h.symm
  · intro h; exact ⟨by omega, h.symm⟩
theorem depF_low {x : Img} (F : TakenFacts x) (i : Nat) : -1 ≤ depF (dF x) i ∧ depF (dF x) i ≤ 64 := by
  unfold depF
  rcases Nat.lt_or_ge i (dF x).length with h | h
  · rw [Fl.getD_lt h]
    exact F.inv.low _ (List.getElem_mem h)
  · rw [Fl.getD_ge h]; omega
theorem begin_at {x : Img} (h : Taken x) {k : Nat} (hk : k < (sF x).1.length) : (sF x).1[k].b = nAt (sF x) k ∧ (sF x).1[k].b + 2 ≤ (sF x).1[k].e ∧ depF (dF x) (sF x).1[k].b = 0 ∧ (sF x).1[k].e ≤ 16384 := by
  have F := taken_facts h
  have hp : Fl.prOf (sF x) k = (sF x).1[k] := Fl.getD_lt hk
  have hpr := F.cut.pr k hk
  have hcv := F.cut.conv k hk (Fl.prOf (sF x) k).b (Nat.le_refl _) hpr.1
  have hlt : (Fl.prOf (sF x) k).b < x.code.length := by omega
  have hs := sound_at h hlt
  rw [hcv] at hs
  have hb := F.inv.begin k hk
  rw [← hp]
  refine ⟨?_, ?_, ?_, by have := F.len; omega⟩
  · unfold nAt
    by_cases h0 : k = 0
    · subst h0; rw [if_pos rfl]; exact F.chain.zero hk
    · rw [if_neg h0]
      have := F.chain.next (k - 1) (by omega)
      rw [Nat.sub_add_cancel (by omega)] at this
      exact this
  · have h3 := hs.ent.2 rfl
    have h6 := hs.kent.2 h3
    have hl := hs.last
    have hh := hs.hi
    rcases Nat.lt_or_ge ((Fl.prOf (sF x) k).b + 1) (Fl.prOf (sF x) k).e with h | h
    · omega
    · have := hl (by omega); omega
  · rw [depF_lt (by rw [F.dlen]; exact hlt)]; exact hb
theorem get_of {α : Type} {l : List α} {d : α} {j k : Nat} (h : j = k) {hj : j < l.length} : l[j] = l.getD k d := by subst h; exact (Fl.getD_lt hj).symm
theorem mod_eq (x : Img) : modV x = modM (Fl.procsV (sF x) (tsF x)) (nF x) (dF x) x (bitsI x) (digestP x) := rfl
theorem VerifySound (x : Img) (hl1 : x.code.length ≤ 17592186043904) (hl2 : x.jumps.length ≤ 35184372087808) (hl3 : x.data.length ≤ 140737488351232) (hl4 : x.names.length ≤ 5864062014634) :
    pureV E (om E) 3 false [imgV x] = some (bb true) := by
  by_cases h : Taken x
  · have F := taken_facts h
    have hT := Take_ok x h
    rw [mod_eq] at hT
    have hts : (tsF x).length = (sF x).1.length := Fl.tgtN_len _ _ _
    have hcl : (cF x).length = x.code.length := by simp [cF]
    have hol : (sF x).2.length = x.code.length := F.cut.len
    have hso : ∀ i, (hi : i < x.code.length) → (sF x).2[i]'(by omega) = Fl.ofI (sF x) i := fun i hi => (Fl.getD_lt (by omega)).symm
    have hlt : ∀ i, i < x.code.length → Fl.ofI (sF x) i < (sF x).1.length := fun i hi => F.cut.lt i hi
    have hpo : ∀ p ∈ (sF x).2, p < (sF x).1.length := Fl.cutN_of h.find.first _
    have hrise : ∀ k, (hk : k < (tsF x).length) → Fl.Rising ((tsF x)[k]) ∧ (tsF x)[k].length ≤ 16384 := fun k hk => by
      have h1 := (Fl.tgt_rise h.find.jumps (jF x).length (Nat.le_refl _) k).1
      have h2 := Fl.tgtN_le (sF x) (jF x) (jF x).length _ (List.getElem_mem hk)
      rw [Fl.getD_lt hk] at h1
      have h3 : (jF x).length = x.jumps.length := by simp [jF]
      have := F.jlen
      exact ⟨h1, by omega⟩
    have hM := procs_solid (sF x) (tsF x)
    have hsol : Solid (modM (Fl.procsV (sF x) (tsF x)) (nF x) (dF x) x (bitsI x) (digestP x)) := by
      obtain ⟨g1, g2, g3⟩ := hM
      refine ⟨?_, ?_, ?_⟩ <;> simp [Fl.canon_lsts]
    have hPO := fun i (hi : i < x.code.length) => MProcOf (sF x) (tsF x) (nF x) (dF x) x (bitsI x) (digestP x) false i (by omega) (by have := F.len; omega) (by rw [hso i hi]; exact hlt i hi) F.nlen
    have hBE := fun i (hi : i < 4294967296) => MBegins (sF x) (tsF x) (nF x) (dF x) x (bitsI x) (digestP x) false i hi hpo
    have hLE := fun i t (hi : i < x.code.length) => MLegal (sF x) (tsF x) (nF x) (dF x) x (bitsI x) (digestP x) false i t (by omega) (by have := F.len; omega) (by rw [hso i hi]; exact hlt i hi) hts (hrise _ (by rw [hso i hi, hts]; exact hlt i hi)).1 (by have := (hrise ((sF x).2[i]'(by omega)) (by rw [hso i hi, hts]; exact hlt i hi)).2; omega)
    have hPR := MProcs (sF x) (tsF x) (nF x) (dF x) x (bitsI x) (digestP x) F.plen F.nlen
    have hDE := fun i (hi : i < 4294967296) => MDepth hM (nF x) (dF x) x (bitsI x) (digestP x) false (by have := F.dlen; have := F.len; omega) i hi
    have hBA := fun i (hi : i < 4294967296) => MBack hM (nF x) (dF x) x (bitsI x) (digestP x) false F.dlen.symm (by have := F.dlen; have := F.len; omega) i hi
    have hAT := fun i (hi : i < x.code.length) => MAt hM (nF x) (dF x) x (bitsI x) (digestP x) false F.len i hi
    have hCO := MCount hM (nF x) (dF x) x (bitsI x) (digestP x) false
    have heq : ∀ p q, binO E .eql 29 p q (modM (Fl.procsV (sF x) (tsF x)) (nF x) (dF x) x (bitsI x) (digestP x)) .nilptr = some (.bool false) := fun p q => eq_pconM _ _ _ _
    generalize modM (Fl.procsV (sF x) (tsF x)) (nF x) (dF x) x (bitsI x) (digestP x) = M at *
    have hp : ∀ i, (hi : i < x.code.length) → (sF x).1[(sF x).2[i]'(by omega)]'(by rw [hso i hi]; exact hlt i hi) = Fl.prOf (sF x) (Fl.ofI (sF x) i) := fun i hi => by
      exact get_of (d := default) (hso i hi)
    have hnn : ∀ i, (hi : i < x.code.length) → (nF x)[(sF x).2[i]'(by omega)]'(by rw [hso i hi, F.nlen]; exact hlt i hi) = (nF x).getD (Fl.ofI (sF x) i) 0 := fun i hi => by
      exact get_of (d := 0) (hso i hi)
    have htt : ∀ i, (hi : i < x.code.length) → (tsF x)[(sF x).2[i]'(by omega)]'(by rw [hso i hi, hts]; exact hlt i hi) = (tsF x).getD (Fl.ofI (sF x) i) [] := fun i hi => by
      exact get_of (d := []) (hso i hi)
    have hPO' : ∀ i, i < x.code.length → pureV E (om E) 33 false [M, .int .u32 i] = some (.tuple [pnV (Fl.prOf (sF x) (Fl.ofI (sF x) i)) ((nF x).getD (Fl.ofI (sF x) i) 0), bb true]) := fun i hi => by
      have := hPO i hi
      rw [hp i hi, hnn i hi] at this
      exact this
    have hLE' : ∀ i, i < x.code.length → ∀ t : Nat, pureV E (om E) 37 false [M, .int .u32 i, .int .u32 t] = some (bb (decide (t ∈ (tsF x).getD (Fl.ofI (sF x) i) []))) := fun i hi t => by
      have := hLE i t hi
      rw [htt i hi] at this
      exact this
    refine Law_walk x hl1 hl2 hl3 hl4 hsol (sF x) (nF x) (fun i => depF (dF x) i) F.len F.plen F.nlen hT heq hPR hCO hDE ?_ ?_ (fun k hk => begin_at h hk) ?_
    · intro i hi
      have hb := hBE i (by have := F.len; omega)
      rw [begins_eq F hi] at hb
      refine Sound_walk hsol (by have := F.len; omega) (sound_at h hi) ?_ x.code[i].op.toNat_lt x.code[i].arg.toNat_lt (hAT i hi) (hPO' i hi) (fun lent => Info_fl lent (isOp_of (code_all h.chk _ (List.getElem_mem hi)))) hb (hDE i (by have := F.len; omega))
        (hBA (i + 1) (by have := F.len; omega)) (hDE (i + 1) (by have := F.len; omega)) (hDE _ x.code[i].arg.toNat_lt)
      have := (F.cut.pr _ (hlt i hi)).2.1
      have := F.len
      omega
    · refine Jumps_walk hsol x F.len F.jlen (fun i => depF (dF x) i) (fun i => depF_low F i) (fun i => Fl.prOf (sF x) (Fl.ofI (sF x) i)) (fun i => (nF x).getD (Fl.ofI (sF x) i) 0) (fun i t => decide (t ∈ (tsF x).getD (Fl.ofI (sF x) i) [])) hDE hPO' hLE' ?_
      intro i hi hop h0 t ht
      have htj : t.toNat ∈ jF x := List.mem_map.2 ⟨t, ht, rfl⟩
      have hiff := Fl.tgt_iff h.find (i := i) (by omega) htj
      refine ⟨by congr 1; exact propext hiff, fun b1 b2 => ?_⟩
      have hm := hiff.2 ⟨b1, b2⟩
      have hs := kinds_of (isOp_of (code_all h.chk _ (List.getElem_mem hi)))
      have hk4 : Fl.kindF x.code[i].op.toNat = 4 := hs.2.2.2.1.2 hop
      have hcode : (cF x).getD i default = fl x.code[i] := by rw [Fl.getD_lt (by omega)]; simp [cF]
      have hdi : depF (dF x) i = (dF x).getD i 0 := depF_lt (by rw [F.dlen]; exact hi)
      have hdn := F.inv.dn i (by omega) (hlt i hi) (by rw [← hdi]; exact h0)
      have hnx : t.toNat ∈ Fl.nextF (cF x) (sF x) (Fl.tgts (cF x) (jF x)) i := by
        unfold Fl.nextF
        dsimp only
        rw [hcode]
        have : Fl.kindF (fl x.code[i]).op = 4 := hk4
        rw [this, if_neg (by omega), if_neg (by omega), if_neg (by omega), if_pos rfl]
        exact hm
      have hd := hdn.next _ hnx
      have hin := Fl.next_in h.find (i := i) (by omega) _ hnx
      unfold Fl.leftF at hd
      rw [hcode] at hd
      have t1 : Fl.takesF (fl x.code[i]).op = 1 := by show Fl.takesF x.code[i].op.toNat = 1; rw [hop]; rfl
      have t2 : Fl.givesF (fl x.code[i]).op = 0 := by show Fl.givesF x.code[i].op.toNat = 0; rw [hop]; rfl
      rw [t1, t2, ← hdi] at hd
      show depF (dF x) t.toNat = depF (dF x) i - 1
      rw [depF_lt (by rw [F.dlen]; omega), hd]
      simp
    · unfold nAt
      have h0 : 0 < (sF x).1.length := Fl.cutN_pos h.find.first h.find.pos
      rw [if_neg (by omega)]
      exact F.cut.last h0
  · obtain ⟨a, e, he, hT⟩ := Take_bad x (by omega) (by omega) (by omega) (by omega) h
    have hL := Lend x hl1 hl2 hl3 hl4
    apply pu_3
    simp (disch := omega) [if_pos, if_neg, iteK_pos, iteK_neg, Tryz.f3, hL, hT, eq_nilM, Awake]
end Go.Proofs.YtnojknodojjnnaaGreat
end
section
namespace Go.Proofs.YtnojknodojjnnaaGreat
open Go Go.Sim Go.RowKit Go.ChangeShapes Go.WideShapes Go.Deep
set_option maxRecDepth 100000
set_option linter.unusedSimpArgs false
set_option linter.unusedVariables false

section
variable {H : Type} {enc : TypeId × Value → H} {W : World}
theorem u8_of {n : Int} (h : (Lit.int .u8 n).wf = true) : n = ((UInt8.ofNat n.toNat).toNat : Int) := by
  simp [Lit.wf, IntKind.min, IntKind.max] at h
  simp only [UInt8.toNat_ofNat']; omega
theorem u32_of {n : Int} (h : (Lit.int .u32 n).wf = true) : n = ((UInt32.ofNat n.toNat).toNat : Int) := by
  simp [Lit.wf, IntKind.min, IntKind.max] at h
  simp only [UInt32.toNat_ofNat']; omega
theorem el_u8 (n : Nat) (cs : List Value) (x : DataW H × List MemPlace) (h : DataW.trod enc Tryz.prog W 0 (fun _ => true) true n 5 cs = some x) : ∃ a : UInt8, cs = (eU8.enc a).map toVal ∧ ∀ u ∈ eU8.enc a, simpleV u = true := by
  obtain ⟨m, rfl, _, hw⟩ := DataW.trod_int Tryz.underlying5 h
  refine ⟨UInt8.ofNat m.toNat, ?_, by simp [simpleV]⟩
  show _ = [Value.int .u8 _]
  rw [← u8_of hw]
theorem el_u32 (n : Nat) (cs : List Value) (x : DataW H × List MemPlace) (h : DataW.trod enc Tryz.prog W 0 (fun _ => true) true n 25 cs = some x) : ∃ a : UInt32, cs = (eU32.enc a).map toVal ∧ ∀ u ∈ eU32.enc a, simpleV u = true := by
  obtain ⟨m, rfl, _, hw⟩ := DataW.trod_int Tryz.underlying25 h
  refine ⟨UInt32.ofNat m.toNat, ?_, by simp [simpleV]⟩
  show _ = [Value.int .u32 _]
  rw [← u32_of hw]
theorem el_instr (n : Nat) (cs : List Value) (x : DataW H × List MemPlace) (h : DataW.trod enc Tryz.prog W 0 (fun _ => true) true n 54 cs = some x) : ∃ a : Instr, cs = (eInstr.enc a).map toVal ∧ ∀ u ∈ eInstr.enc a, simpleV u = true := by
  obtain ⟨a, b, n', y, z, rfl, h0, h1⟩ := two_in Tryz.underlying54 (by kernel_rfl) rfl rfl (by kernel_rfl) (by kernel_rfl) h
  obtain ⟨m0, e0, _, w0⟩ := DataW.trod_int Tryz.underlying52 h0
  obtain ⟨m1, e1, _, w1⟩ := DataW.trod_int Tryz.underlying25 h1
  simp at e0 e1
  subst e0 e1
  refine ⟨⟨UInt8.ofNat m0.toNat, UInt32.ofNat m1.toNat⟩, ?_, by simp [simpleV]⟩
  show _ = [Value.int .u8 _, Value.int .u32 _]
  rw [← u8_of w0, ← u32_of w1]
theorem el_export (n : Nat) (cs : List Value) (x : DataW H × List MemPlace) (h : DataW.trod enc Tryz.prog W 0 (fun _ => true) true n 83 cs = some x) : ∃ a : Export, cs = (eExport.enc a).map toVal ∧ ∀ u ∈ eExport.enc a, simpleV u = true := by
  obtain ⟨a, b, n', y, z, rfl, h0, h1⟩ := two_in Tryz.underlying83 (by kernel_rfl) rfl rfl (by kernel_rfl) (by kernel_rfl) h
  obtain ⟨s, e0, _⟩ := DataW.trod_string Tryz.underlying9 h0
  obtain ⟨m1, e1, _, w1⟩ := DataW.trod_int Tryz.underlying25 h1
  simp at e0 e1
  subst e0 e1
  refine ⟨⟨s.data.toList, UInt32.ofNat m1.toNat⟩, ?_, by simp [simpleV]⟩
  show _ = [Value.string ⟨s.data.toList.toArray⟩, Value.int .u32 _]
  rw [← u32_of w1]
instance : Inhabited Instr := ⟨⟨0, 0⟩⟩
instance : Inhabited Export := ⟨⟨[], 0⟩⟩
theorem img_in {b0 : Nat} {v : Value} {d : DataW H} {ps : List MemPlace} (hv : Value.okWide Tryz.prog W .any b0 28 v) (hT : DataW.Trod enc Tryz.prog W 0 (fun _ => true) true 28 v d ps) :
    ∃ x : Img, VRel (fun b => b < W.heap.size) W Bd.none_ (imgV x) v ∧ ∀ (j : Nat) ts ds, ts[j]? = some 28 → ds[j]? = some d → (DataW.weightsEach Tryz.prog ts ds).all (· ≤ reachBytes) = true → x.code.length ≤ 17592186043904 ∧ x.jumps.length ≤ 35184372087808 ∧ x.data.length ≤ 140737488351232 ∧ x.names.length ≤ 5864062014634 := by
  obtain ⟨cs, rfl, hlen, hcell⟩ := struct_cells (ts := [22, 23, 24, 25, 25, 26]) Tryz.underlying28 (by kernel_rfl) (by kernel_rfl) hv
  obtain ⟨c0, c1, c2, c3, c4, c5, rfl⟩ := six hlen
  obtain ⟨fuel, hf⟩ := hT
  obtain ⟨xs, n, rfl, hx, hl, hxl, hfs⟩ := DataW.trod_struct Tryz.underlying28 hf
  have sh : ∀ (t e : TypeId) (c : Value), Tryz.prog.underlying t = some (.slice e) → Cell.okWide Tryz.prog W .any b0 t c → c = .slice none 0 0 ∨ ∃ b off len cap, c = .slice (some ⟨b, off, none⟩) len cap ∧ len ≤ cap := fun t e c hu hc =>
    slice_shape (P := Tryz.prog) (W := W) (r := .any) (base := b0) (t := t) hu (by simp only [Value.okWide, hu]; exact hc)
  have one1 : ∀ t : TypeId, t = 22 ∨ t = 23 ∨ t = 24 ∨ t = 25 ∨ t = 26 → Tryz.prog.cellsOf t = 1 := by
    rintro t (rfl | rfl | rfl | rfl | rfl) <;> kernel_rfl
  match xs, hxl with
  | [(d0, p0), (d1, p1), (d2, p2), (d3, p3), (d4, p4), (d5, p5)], _ =>
    have g0 : DataW.trod enc Tryz.prog W 0 (fun _ => true) true n 22 (([c0, c1, c2, c3, c4, c5].drop 0).take (Tryz.prog.cellsOf 22)) = some (d0, p0) := hfs 0 _ rfl
    rw [one1 22 (by simp)] at g0
    replace g0 : DataW.trod enc Tryz.prog W 0 (fun _ => true) true n 22 [c0] = some (d0, p0) := g0
    have g1 : DataW.trod enc Tryz.prog W 0 (fun _ => true) true n 23 (([c0, c1, c2, c3, c4, c5].drop 1).take (Tryz.prog.cellsOf 23)) = some (d1, p1) := hfs 1 _ rfl
    rw [one1 23 (by simp)] at g1
    replace g1 : DataW.trod enc Tryz.prog W 0 (fun _ => true) true n 23 [c1] = some (d1, p1) := g1
    have g2 : DataW.trod enc Tryz.prog W 0 (fun _ => true) true n 24 (([c0, c1, c2, c3, c4, c5].drop 2).take (Tryz.prog.cellsOf 24)) = some (d2, p2) := hfs 2 _ rfl
    rw [one1 24 (by simp)] at g2
    replace g2 : DataW.trod enc Tryz.prog W 0 (fun _ => true) true n 24 [c2] = some (d2, p2) := g2
    have g3 : DataW.trod enc Tryz.prog W 0 (fun _ => true) true n 25 (([c0, c1, c2, c3, c4, c5].drop 3).take (Tryz.prog.cellsOf 25)) = some (d3, p3) := hfs 3 _ rfl
    rw [one1 25 (by simp)] at g3
    replace g3 : DataW.trod enc Tryz.prog W 0 (fun _ => true) true n 25 [c3] = some (d3, p3) := g3
    have g4 : DataW.trod enc Tryz.prog W 0 (fun _ => true) true n 25 (([c0, c1, c2, c3, c4, c5].drop 4).take (Tryz.prog.cellsOf 25)) = some (d4, p4) := hfs 4 _ rfl
    rw [one1 25 (by simp)] at g4
    replace g4 : DataW.trod enc Tryz.prog W 0 (fun _ => true) true n 25 [c4] = some (d4, p4) := g4
    have g5 : DataW.trod enc Tryz.prog W 0 (fun _ => true) true n 26 (([c0, c1, c2, c3, c4, c5].drop 5).take (Tryz.prog.cellsOf 26)) = some (d5, p5) := hfs 5 _ rfl
    rw [one1 26 (by simp)] at g5
    replace g5 : DataW.trod enc Tryz.prog W 0 (fun _ => true) true n 26 [c5] = some (d5, p5) := g5
    obtain ⟨code, o0, r0, l0⟩ := list_in eInstr Tryz.underlying22 (by kernel_rfl) el_instr (sh 22 54 c0 Tryz.underlying22 (hcell 0 c0 22 rfl rfl)) g0
    obtain ⟨jumps, o1, r1, l1⟩ := list_in eU32 Tryz.underlying23 (by kernel_rfl) el_u32 (sh 23 25 c1 Tryz.underlying23 (hcell 1 c1 23 rfl rfl)) g1
    obtain ⟨data, o2, r2, l2⟩ := list_in eU8 Tryz.underlying24 (by kernel_rfl) el_u8 (sh 24 5 c2 Tryz.underlying24 (hcell 2 c2 24 rfl rfl)) g2
    obtain ⟨names, o5, r5, l5⟩ := list_in eExport Tryz.underlying26 (by kernel_rfl) el_export (sh 26 83 c5 Tryz.underlying26 (hcell 5 c5 26 rfl rfl)) g5
    obtain ⟨m3, e3, _, w3⟩ := DataW.trod_int Tryz.underlying25 g3
    obtain ⟨m4, e4, _, w4⟩ := DataW.trod_int Tryz.underlying25 g4
    replace e3 : [c3] = [Value.int .u32 m3] := e3
    replace e4 : [c4] = [Value.int .u32 m4] := e4
    simp only [List.cons.injEq, and_true] at e3 e4
    subst e3 e4
    have hd : d = .agg [d0, d1, d2, d3, d4, d5] := by
      have := congrArg Prod.fst hx
      simpa using this
    have hw : ∀ (t : TypeId) (e : DataW H) (j : Nat) (ts : List TypeId) (ds : List (DataW H)), ts[j]? = some 28 → ds[j]? = some d → (DataW.weightsEach Tryz.prog ts ds).all (· ≤ reachBytes) = true →
        (∃ k : Nat, ([22, 23, 24, 25, 25, 26] : List TypeId)[k]? = some t ∧ [d0, d1, d2, d3, d4, d5][k]? = some e) → ∀ x ∈ e.weights Tryz.prog t, x ≤ 140737488351232 := by
      intro t e j ts ds h1 h2 h3 ⟨k, k1, k2⟩ x hx'
      have hin : x ∈ d.weights Tryz.prog 28 := by
        rw [hd]
        unfold DataW.weights
        rw [Tryz.underlying28]
        exact weight_each (ts := [22, 23, 24, 25, 25, 26]) (ds := [d0, d1, d2, d3, d4, d5]) k1 k2 hx'
      exact of_decide_eq_true (List.all_eq_true.1 h3 x (weight_each h1 h2 hin))
    refine ⟨⟨code, jumps, data, UInt32.ofNat m3.toNat, UInt32.ofNat m4.toNat, names⟩, ?_, fun j ts ds h1 h2 h3 => ⟨?_, ?_, ?_, ?_⟩⟩
    · unfold VRel
      refine ⟨_, rfl, ?_⟩
      simp only [ORelL]
      exact ⟨_, _, rfl, o0, r0, _, _, rfl, o1, r1, _, _, rfl, o2, r2, _, _, rfl, rfl, by simp only [VRel]; rw [← u32_of w3], _, _, rfl, rfl, by simp only [VRel]; rw [← u32_of w4], _, _, rfl, o5, r5, rfl⟩
    · show code.length ≤ 17592186043904
      rcases weight_of Tryz.underlying22 g0 r0 with rfl | ⟨x, hx', hle⟩
      · simp
      · have := hw _ _ j ts ds h1 h2 h3 ⟨0, rfl, rfl⟩ x hx'
        have hb : Tryz.prog.bytesOf 54 = 8 := by kernel_rfl
        rw [hb] at hle; omega
    · show jumps.length ≤ 35184372087808
      rcases weight_of Tryz.underlying23 g1 r1 with rfl | ⟨x, hx', hle⟩
      · simp
      · have := hw _ _ j ts ds h1 h2 h3 ⟨1, rfl, rfl⟩ x hx'
        have hb : Tryz.prog.bytesOf 25 = 4 := by kernel_rfl
        rw [hb] at hle; omega
    · show data.length ≤ 140737488351232
      rcases weight_of Tryz.underlying24 g2 r2 with rfl | ⟨x, hx', hle⟩
      · simp
      · have := hw _ _ j ts ds h1 h2 h3 ⟨2, rfl, rfl⟩ x hx'
        have hb : Tryz.prog.bytesOf 5 = 1 := by kernel_rfl
        rw [hb] at hle; omega
    · show names.length ≤ 5864062014634
      rcases weight_of Tryz.underlying26 g5 r5 with rfl | ⟨x, hx', hle⟩
      · simp
      · have := hw _ _ j ts ds h1 h2 h3 ⟨5, rfl, rfl⟩ x hx'
        have hb : Tryz.prog.bytesOf 83 = 24 := by kernel_rfl
        rw [hb] at hle; omega
end
end Go.Proofs.YtnojknodojjnnaaGreat
end
