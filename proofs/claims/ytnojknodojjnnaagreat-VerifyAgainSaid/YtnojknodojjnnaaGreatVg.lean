/-
  The law VerifyAgain, walked.
-/
import Derived.Test.YtnojknodojjnnaaGreatVe
import Derived.Test.YtnojknodojjnnaaGreatMd
section
namespace Go.Proofs.YtnojknodojjnnaaGreat
open Go Go.Sim
set_option maxRecDepth 100000
set_option maxHeartbeats 0
set_option linter.unusedSimpArgs false
set_option linter.unusedVariables false

theorem neqInstrV (p q : Operand) (a b a' b' : Int) : binO E .neq 54 p q (.agg [w8 a, w32 b]) (.agg [w8 a', w32 b']) = some (bb (!((a == a') && (b == b')))) :=
  binO_neq (eqV_two (n := 196) (by rw [E_P]; exact Tryz.underlying54) (by kernel_rfl) rfl rfl rfl rfl (by rw [E_P]; simp) (by rw [E_P]; simp) (eqV_int (by rw [E_P]; simp)) (eqV_int (by rw [E_P]; simp)))
theorem Load_bad (l : List UInt8) (hl : l.length < 2 ^ 63) (h : (parseP l).2.2 ≠ 0) : pureV E (om E) 14 false [bs l] = some (.tuple [.nilptr, ii (parseP l).2.1, ii (parseP l).2.2]) := by
  have hP := Parse l hl
  apply pu_14
  generalize parseP l = R at *
  simp (disch := omega) [if_pos, if_neg, iteK_pos, iteK_neg, Tryz.f14, hP, h]
mutual
theorem freeze_flat (T : Heap) : ∀ v : V, V.flat v = true → V.freeze T v = some v
  | .func fn a b, h => by
    simp only [V.flat, Bool.and_eq_true] at h
    simp [freezeL_flat T a h.1, freezeL_flat T b h.2]
  | .iface t v, h => by
    simp only [V.flat] at h
    simp [freeze_flat T v h]
  | .agg cs, h => by
    simp only [V.flat] at h
    simp [freezeL_flat T cs h]
  | .tuple cs, h => by
    simp only [V.flat] at h
    simp [freezeL_flat T cs h]
  | .pref .., h | .sref .., h | .mref .., h | .yield .., h | .poison, h => by simp [V.flat] at h
  | .bool _, h | .int _ _, h | .float _ _, h | .str _, h | .nilptr, h | .nilslice, h | .nilfunc, h | .niliface, h | .nilmap, h | .pcon _ _, h | .scon _ _ _ _, h => by simp [V.freeze, V.down]
theorem freezeL_flat (T : Heap) : ∀ l : List V, V.flatL l = true → V.freezeL T l = some l
  | [], _ => by simp [V.freezeL]
  | v :: r, h => by
    simp only [V.flatL, Bool.and_eq_true] at h
    simp [V.freezeL, freeze_flat T v h.1, freezeL_flat T r h.2]
end
theorem Load_ok (l : List UInt8) (hl : l.length < 2 ^ 63) (h : (parseP l).2.2 = 0) {m : V} (hm : Solid m) {a e : Int} (hT : pureV E (om E) 5 false [imgV (parseP l).1] = some (.tuple [m, ii a, ii e])) : pureV E (om E) 14 false [bs l] = some (.tuple [m, ii a, ii e]) := by
  have hP := Parse l hl
  obtain ⟨h1, h2, h3⟩ := hm
  apply pu_14
  generalize parseP l = R at *
  have h4 := fun T => freeze_flat T m h2
  simp (disch := omega) [if_pos, if_neg, iteK_pos, iteK_neg, Tryz.f14, hP, h, hT, h1, h2, h3, h4]
theorem Again_walk (x : Img) (hl1 : x.code.length ≤ 17592186043904) (hl2 : x.jumps.length ≤ 35184372087808) (hl3 : x.data.length ≤ 140737488351232) (hl4 : x.names.length ≤ 5864062014634)
    {M : V} (hM : Solid M) (hn : x.code.length ≤ 16384) (ds : Nat → Int) (bk : Nat → Bool) (dg : Nat) (bt : Nat) (b : List UInt8) (hdg : dg % 4294967296 = b.length) (hd64 : dg < 18446744073709551616) (hb : b.length < 2 ^ 40)
    (hT : pureV E (om E) 5 false [imgV x] = some (.tuple [M, ii 0, ii 0]))
    (heq : ∀ p q, binO E .eql 29 p q M .nilptr = some (.bool false))
    (hE : pureV E (om E) 13 false [imgV x] = some (.tuple [bs b, ii 0]))
    (hLo : pureV E (om E) 14 false [bs b] = some (.tuple [M, ii 0, ii 0]))
    (hI : pureV E (om E) 15 false [M] = some (imgV x))
    (hC : pureV E (om E) 10 false [M] = some (ii x.code.length))
    (hG : pureV E (om E) 16 false [M] = some (w64 dg))
    (hB : pureV E (om E) 17 false [M] = some (ii bt))
    (hA : ∀ i : Nat, (h : i < x.code.length) → pureV E (om E) 18 false [M, .int .u32 i] = some (.tuple [insV x.code[i], bb true]))
    (hD : ∀ i : Nat, i < 4294967296 → pureV E (om E) 9 false [M, .int .u32 i] = some (ii (ds i)))
    (hK : ∀ i : Nat, i < 4294967296 → pureV E (om E) 19 false [M, .int .u32 i] = some (bb (bk i))) :
    pureV E (om E) 4 false [imgV x] = some (bb true) := by
  have hL := Lend x hl1 hl2 hl3 hl4
  have h4 := hM.settle
  obtain ⟨h1, h2, h3⟩ := hM
  have g1 : (dg : Int) % 4294967296 = b.length := by omega
  apply pu_4
  simp (disch := omega) [if_pos, if_neg, iteK_pos, iteK_neg, Tryz.f4, hL, hT, heq, hE, hLo, hI, hC, hG, hB, h1, h2, h3, g1]
  refine loop_chg (dyn := []) (fun i : Nat => [(17, ii i)]) (fun n => []) (fun n => []) (fun i => i ≤ x.code.length) (fun i => x.code.length - i) hint_4_0 (by kernel_rfl) ?_ 0 (by simp) (by simp)
  intro i hi IH
  rw [lpB_eq]
  by_cases h : i < x.code.length
  · have e1 : Hid ((i : Int) % 4294967296 = i) := ⟨by omega⟩
    have hAi := hA i h
    have hDi := hD i (by omega)
    have hKi := hK i (by omega)
    clear hA hD hK g1 hdg
    simp (disch := omega) [if_pos, if_neg, iteK_pos, iteK_neg, h, e1.h, hAi, hDi, hKi, hC, h1, h2, h3, h4, neqInstrV, neqBool]
    exact IH (i + 1) _ _ (by omega) (by omega) (by simp)
  · obtain rfl : i = x.code.length := by omega
    simp (disch := omega) [if_pos, if_neg, iteK_pos, iteK_neg, hC, h1, h2, h3, Awake]
theorem VerifyAgain (x : Img) (hl1 : x.code.length ≤ 17592186043904) (hl2 : x.jumps.length ≤ 35184372087808) (hl3 : x.data.length ≤ 140737488351232) (hl4 : x.names.length ≤ 5864062014634) :
    pureV E (om E) 4 false [imgV x] = some (bb true) := by
  by_cases hc : checkP x = 0
  · have hE := ImageEncode x hc
    have hsm := enc_small hc
    have hpe := parse_enc hc
    by_cases h : Taken x
    · have F := taken_facts h
      have hT := Take_ok x h
      have hM := procs_solid (sF x) (tsF x)
      have hdg : digestP x % 4294967296 = (encP x).length := by unfold digestP; omega
      have hd64 : digestP x < 18446744073709551616 := by
        have := (adler (encP x)).toNat_lt
        unfold digestP; omega
      have hTp : pureV E (om E) 5 false [imgV (parseP (encP x)).1] = some (.tuple [modV x, ii 0, ii 0]) := by rw [hpe]; exact hT
      have hsol : Solid (modV x) := by
        obtain ⟨g1, g2, g3⟩ := hM
        refine ⟨?_, ?_, ?_⟩ <;> simp [Fl.canon_lsts]
      have hLo := Load_ok (encP x) (by omega) (by rw [hpe]) hsol hTp
      rw [show modV x = modM (Fl.procsV (sF x) (tsF x)) (nF x) (dF x) x (bitsI x) (digestP x) from rfl] at hT hsol hLo
      have hDE := fun i (hi : i < 4294967296) => MDepth hM (nF x) (dF x) x (bitsI x) (digestP x) false (by have := F.dlen; have := F.len; omega) i hi
      have hBA := fun i (hi : i < 4294967296) => MBack hM (nF x) (dF x) x (bitsI x) (digestP x) false F.dlen.symm (by have := F.dlen; have := F.len; omega) i hi
      have hAT := fun i (hi : i < x.code.length) => MAt hM (nF x) (dF x) x (bitsI x) (digestP x) false F.len i hi
      exact Again_walk x hl1 hl2 hl3 hl4 hsol F.len (fun i => depF (dF x) i) (fun i => backF x.code (dF x) i) (digestP x) (bitsI x) (encP x) hdg hd64 (by omega) hT (fun p q => eq_pconM _ _ _ _) hE hLo (MImage hM _ _ x _ _ (by omega) (by omega) (by omega) (by omega))
        (MCount hM _ _ x _ _ false) (MDigest hM _ _ x _ _ false) (MBits hM _ _ x _ _ false) hAT hDE hBA
    · obtain ⟨a, e, he, hT⟩ := Take_bad x (by omega) (by omega) (by omega) (by omega) h
      have hT := hT false
      have hTp : pureV E (om E) 5 false [imgV (parseP (encP x)).1] = some (.tuple [.nilptr, ii a, ii e]) := by rw [hpe]; exact hT
      have hLo := Load_ok (encP x) (by omega) (by rw [hpe]) (m := .nilptr) ⟨by simp, by simp, by simp⟩ hTp
      have hL := Lend x hl1 hl2 hl3 hl4
      apply pu_4
      simp (disch := omega) [if_pos, if_neg, iteK_pos, iteK_neg, Tryz.f4, hL, hT, eq_nilM, Awake, hE, hLo, he]
  · have hT := Take_check false x (by omega) (by omega) (by omega) (by omega) hc
    have hE := ImageEncode_bad x (by omega) (by omega) (by omega) (by omega) hc
    have hL := Lend x hl1 hl2 hl3 hl4
    have hp0 : parseP [] = (img0, 0, 80) := by rfl
    have hLo := Load_bad [] (by simp) (by rw [hp0]; decide)
    rw [hp0] at hLo
    replace hLo : pureV E (om E) 14 false [.scon [] 0 0 false] = some (.tuple [.nilptr, ii 0, ii 80]) := hLo
    have hc' : ¬ (checkP x : Int) = 0 := by omega
    apply pu_4
    simp (disch := omega) [if_pos, if_neg, iteK_pos, iteK_neg, Tryz.f4, hL, hT, eq_nilM, Awake, hE, hLo, hc, hc']
end Go.Proofs.YtnojknodojjnnaaGreat
end
