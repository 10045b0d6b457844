/-
  verify.Take.
  slices.BinarySearch; procs.Legal; the methods of a module.
-/
import Derived.Test.YtnojknodojjnnaaGreatVa
import Derived.Test.YtnojknodojjnnaaGreatIf
import Derived.Test.YtnojknodojjnnaaGreatFg
section
namespace Go.Proofs.YtnojknodojjnnaaGreat
open Go Go.Sim
set_option maxRecDepth 100000
set_option maxHeartbeats 0
set_option linter.unusedSimpArgs false
set_option linter.unusedVariables false

abbrev cF (x : Img) : List Fl.Instr := x.code.map fl
abbrev jF (x : Img) : List Nat := x.jumps.map UInt32.toNat
/-- An image that is taken. -/
structure Taken (x : Img) : Prop where
  chk : checkP x = 0
  find : Fl.FindOk (cF x) (jF x)
  names : Fl.NamesAt (cF x) x.names
  all : Fl.AllOk (cF x) (jF x)
theorem fits_fl {x : Img} (h : checkP x = 0) : Fl.CodeFits (cF x) (jF x) := by
  obtain ⟨c1, c2, c3, c4, c5, c6, c7⟩ := check_ok h
  refine ⟨fun i hi => ?_, by simp [jF]; omega, fun t ht => ?_⟩
  · obtain ⟨y, _, rfl⟩ := List.mem_map.1 hi
    exact ⟨y.op.toNat_lt, y.arg.toNat_lt⟩
  · obtain ⟨y, _, rfl⟩ := List.mem_map.1 ht
    exact y.toNat_lt
theorem enc_fl {x : Img} (h : checkP x = 0) : Fl.encodes (cF x) := by
  obtain ⟨c1, c2, c3, c4, c5, c6, c7⟩ := check_ok h
  refine ⟨by simp [cF]; omega, fun i hi => ?_⟩
  obtain ⟨y, hy, rfl⟩ := List.mem_map.1 hi
  rw [insBad_fl]
  exact code_all h y hy
/-- The digest. -/
noncomputable def digestP (x : Img) : Nat := (adler (encP x)).toNat * 4294967296 + (encP x).length
noncomputable def bitsI (x : Img) : Nat := bitsP (x.data.length + x.zero.toNat + x.stack.toNat) 8
abbrev tsF (x : Img) : List (List Nat) := Fl.tgtN (Fl.cutF (cF x)) (jF x) (jF x).length
/-- What a module knows. -/
noncomputable abbrev knownC (x : Img) : List V := [Fl.procsV (Fl.cutF (cF x)) (tsF x), lst Fl.eI (Fl.needF (cF x) (jF x)), lst eInstr x.code, lst Fl.eI (Fl.dsF (cF x) (jF x)),
  lst eInstr x.code, ws x.jumps, bs x.data, w32 x.zero.toNat, w32 x.stack.toNat, lst eExport x.names, ii (bitsI x), w64 (digestP x)]
noncomputable abbrev modV (x : Img) : V := .pcon [.pcon (knownC x) 0] 0
theorem enc_small {x : Img} (h : checkP x = 0) : 64 ≤ (encP x).length ∧ (encP x).length < 1048576 := by
  have s := sizes h
  obtain ⟨c1, c2, c3, c4, c5, c6, c7⟩ := check_ok h
  have hl := encF_len x
  have he : (encP x).length = (encF x).length := sealP_length _ (by omega)
  have h1 := s.a
  have h2 := s.b
  have h3 := s.c
  have h4 := s.d
  omega
theorem Take_ok (x : Img) (h : Taken x) : pureV E (om E) 5 false [imgV x] = some (.tuple [modV x, ii 0, ii 0]) := by
  have hchk := h.chk
  obtain ⟨c1, c2, c3, c4, c5, c6, c7⟩ := check_ok hchk
  have hfit := fits_fl hchk
  have hC := fun lent => ImageCheck lent x (by omega) (by omega) (by omega) (by omega)
  simp only [hchk] at hC
  have hV := VCopied x (by omega) (by omega) (by omega) (by omega)
  have hF := fun lent => Fl.FindN_ok lent (names := x.names) (by omega) hfit h.find h.names
  rw [← lst_fl, ← ws_fl] at hF
  have hD := fun (B : List Blk) (r : Heap) (a1 a2 : V) (hv : viewArgs (B :: r) [a1, a2] = some [lst Fl.eInstr (cF x), lst Fl.eW (jF x)]) => Fl.Depths_at hfit h.find h.all hv
  rw [← lst_fl, ← ws_fl] at hD
  have hB := ImageBits_ok x hchk
  have hE := ImageEncode x hchk
  have hlen : (encP x).length < 2 ^ 40 := by have := enc_small hchk; omega
  have hS := fun lent => Sum lent (encP x) hlen
  apply pu_5
  simp (disch := omega) [if_pos, if_neg, iteK_pos, iteK_neg, Tryz.f5, hC, hV, hF]
  rw [hD _ _ _ _ (by simp)]
  simp (disch := omega) [if_pos, if_neg, iteK_pos, iteK_neg, hB, hE, hS]
  have hnl : (Fl.cutF (cF x)).1.length = (Fl.needF (cF x) (jF x)).length := by simp [Fl.needF, Fl.needN]
  have hcut : Fl.CutOk (cF x) (cF x).length (Fl.cutF (cF x)) := Fl.cut_ok h.find.first _
  have hI := Fl.ds_inv hcut (Fl.next_lt h.find) (Fl.cutF (cF x)).1.length (Nat.le_refl _) h.all
  have hdl : x.code.length = (Fl.dsF (cF x) (jF x)).length := by
    have := hI.len
    unfold Fl.dsF
    rw [this]; simp [cF]
  have hdig : IntKind.u64.wrap (IntKind.u64.wrap (((adler (encP x)).toNat : Int) * 4294967296) + (encP x).length) = (digestP x : Int) := by
    have := (adler (encP x)).toNat_lt
    have := enc_small hchk
    rw [IntKind.wrap_u64, IntKind.wrap_u64]
    unfold digestP
    omega
  rw [hdig, hnl, hdl]
  simp (disch := omega) [if_pos, if_neg, iteK_pos, iteK_neg, Fl.canon_lsts]
  have ej : x.jumps.length = (jF x).length := (List.length_map ..).symm
  exact ⟨⟨by rw [ej], by rw [ej]⟩, rfl⟩
theorem Take_check (lent) (x : Img) (h1 : x.code.length < 2 ^ 63) (h2 : x.jumps.length < 2 ^ 63) (h3 : x.data.length < 2 ^ 63) (h4 : x.names.length < 2 ^ 63) (hc : checkP x ≠ 0) : pureV E (om E) 5 lent [imgV x] = some (.tuple [.nilptr, ii 0, ii (checkP x)]) := by
  have hC := fun lent => ImageCheck lent x h1 h2 h3 h4
  apply pu_5
  simp (disch := omega) [if_pos, if_neg, iteK_pos, iteK_neg, Tryz.f5, hC, hc]
theorem Take_find (lent) (x : Img) (hchk : checkP x = 0) {a e : Nat} (he : e ≠ 0) (hF : ∀ lent, pureV E (om E) 22 lent [lst eInstr x.code, ws x.jumps, lst eExport x.names] = some (.tuple [.nilptr, ii a, ii e])) : pureV E (om E) 5 lent [imgV x] = some (.tuple [.nilptr, ii a, ii e]) := by
  obtain ⟨c1, c2, c3, c4, c5, c6, c7⟩ := check_ok hchk
  have hC := fun lent => ImageCheck lent x (by omega) (by omega) (by omega) (by omega)
  simp only [hchk] at hC
  have hV := VCopied x (by omega) (by omega) (by omega) (by omega)
  apply pu_5
  simp (disch := omega) [if_pos, if_neg, iteK_pos, iteK_neg, Tryz.f5, hC, hV, hF, he]
theorem Take_flow (lent) (x : Img) (hchk : checkP x = 0) (hfi : Fl.FindOk (cF x) (jF x)) (hna : Fl.NamesAt (cF x) x.names) (m : Nat) (hm : m < (Fl.cutF (cF x)).1.length)
    (hok : ∀ k, k < m → (Fl.walkN (cF x) (Fl.cutF (cF x)) (Fl.tgts (cF x) (jF x)) k).e = 0) (hbad : (Fl.walkN (cF x) (Fl.cutF (cF x)) (Fl.tgts (cF x) (jF x)) m).e ≠ 0) :
    pureV E (om E) 5 lent [imgV x] = some (.tuple [.nilptr, ii (Fl.walkN (cF x) (Fl.cutF (cF x)) (Fl.tgts (cF x) (jF x)) m).at_, ii (Fl.walkN (cF x) (Fl.cutF (cF x)) (Fl.tgts (cF x) (jF x)) m).e]) := by
  obtain ⟨c1, c2, c3, c4, c5, c6, c7⟩ := check_ok hchk
  have hfit := fits_fl hchk
  have hC := fun lent => ImageCheck lent x (by omega) (by omega) (by omega) (by omega)
  simp only [hchk] at hC
  have hV := VCopied x (by omega) (by omega) (by omega) (by omega)
  have hF := fun lent => Fl.FindN_ok lent (names := x.names) (by omega) hfit hfi hna
  rw [← lst_fl, ← ws_fl] at hF
  have hb := Fl.Depths_body hfit hfi m (by omega) hok (fun _ => hbad)
  rw [← lst_fl, ← ws_fl] at hb
  unfold Fl.depR at hb
  rw [if_pos hm] at hb
  generalize Fl.walkN (cF x) (Fl.cutF (cF x)) (Fl.tgts (cF x) (jF x)) m = W at *
  generalize Fl.depE _ _ _ _ _ _ = X at hb
  have hD : ∀ (B : List Blk) (r : Heap) (a1 a2 : V), viewArgs (B :: r) [a1, a2] = some [lst eInstr x.code, ws x.jumps] → callV E (om E) 23 [a1, a2] (B :: r) = some (.tuple [.nilslice, .nilslice, ii W.at_, ii W.e], (B ++ X.map (outBlk B.length)) :: r) := by
    intro B r a1 a2 hv
    rw [call_23, hv]
    simp (disch := omega) [if_pos, if_neg, iteK_pos, iteK_neg, hb]
  have he := hbad
  apply pu_5
  simp (disch := omega) [if_pos, if_neg, iteK_pos, iteK_neg, Tryz.f5, hC, hV, hF]
  rw [hD _ _ _ _ (by simp)]
  simp (disch := omega) [if_pos, if_neg, iteK_pos, iteK_neg, he]
theorem Take_bad (x : Img) (h1 : x.code.length < 2 ^ 63) (h2 : x.jumps.length < 2 ^ 63) (h3 : x.data.length < 2 ^ 63) (h4 : x.names.length < 2 ^ 63) (h : ¬ Taken x) : ∃ a e : Int, e ≠ 0 ∧ ∀ lent, pureV E (om E) 5 lent [imgV x] = some (.tuple [.nilptr, ii a, ii e]) := by
  by_cases hc : checkP x = 0
  · obtain ⟨c1, c2, c3, c4, c5, c6, c7⟩ := check_ok hc
    have hfit := fits_fl hc
    by_cases hF : Fl.FindOk (cF x) (jF x) ∧ Fl.NamesAt (cF x) x.names
    · obtain ⟨m, m1, m2, m3⟩ := Fl.first_bad (fun i => (Fl.walkN (cF x) (Fl.cutF (cF x)) (Fl.tgts (cF x) (jF x)) i).e ≠ 0) (Fl.cutF (cF x)).1.length
      have hm : m < (Fl.cutF (cF x)).1.length := by
        rcases Nat.lt_or_ge m (Fl.cutF (cF x)).1.length with h' | h'
        · exact h'
        · exact absurd ⟨hc, hF.1, hF.2, fun i hi => Classical.byContradiction (m2 i (by omega))⟩ h
      exact ⟨_, _, fun h => m3 hm (by exact_mod_cast h), fun lent => Take_flow lent x hc hF.1 hF.2 m hm (fun k hk => Classical.byContradiction (m2 k hk)) (m3 hm)⟩
    · obtain ⟨a, e, e0, e1, hB⟩ := Fl.FindN_bad (names := x.names) (by omega) hfit hF
      rw [← lst_fl, ← ws_fl] at hB
      exact ⟨a, e, by omega, fun lent => Take_find lent x hc e0 hB⟩
  · exact ⟨0, checkP x, by omega, fun lent => Take_check lent x h1 h2 h3 h4 hc⟩
end Go.Proofs.YtnojknodojjnnaaGreat
end
section
namespace Go.Proofs.YtnojknodojjnnaaGreat
open Go Go.Sim
set_option maxRecDepth 100000
set_option maxHeartbeats 0
set_option linter.unusedSimpArgs false
set_option linter.unusedVariables false

theorem CIsNaN (lent) (a : Nat) : pureV E (om E) 123 lent [.int .u32 a] = some (bb false) := by
  apply pu_123
  simp (disch := omega) [if_pos, if_neg, iteK_pos, iteK_neg, Tryz.f123]
theorem CmpLess (lent) (a b : Nat) : pureV E (om E) 121 lent [.int .u32 a, .int .u32 b] = some (bb (decide (a < b))) := by
  apply pu_121
  by_cases h : a < b <;> simp (disch := omega) [if_pos, if_neg, iteK_pos, iteK_neg, Tryz.f121, CIsNaN, h]
theorem SIsNaN (lent) (a : Nat) : pureV E (om E) 122 lent [.int .u32 a] = some (bb false) := by
  apply pu_122
  simp (disch := omega) [if_pos, if_neg, iteK_pos, iteK_neg, Tryz.f122]
theorem BSearch (l : List Nat) (hl : l.length ≤ 35184372087808) (hs : Fl.Rising l) (x : Nat) : ∃ p : Nat, ∀ lent, pureV E (om E) 110 lent [lst Fl.eW l, .int .u32 x] = some (.tuple [ii p, bb (decide (x ∈ l))]) := by
  obtain ⟨p, p1, p2, p3⟩ := Fl.first_bad (fun i => x ≤ l.getD i 0) l.length
  have q2 : ∀ i, i < p → (h : i < l.length) → l[i] < x := fun i hi h => by have := p2 i hi; rw [Fl.getD_lt h] at this; omega
  have q3 : ∀ i, p ≤ i → (h : i < l.length) → x ≤ l[i] := fun i hi h => by
    have h3 := p3 (by omega)
    rw [Fl.getD_lt (by omega : p < l.length)] at h3
    rcases Nat.lt_or_ge p i with h4 | h4
    · have := hs p i h4 h; omega
    · obtain rfl : i = p := by omega
      exact h3
  refine ⟨p, fun lent => ?_⟩
  apply pu_110
  simp (disch := omega) [if_pos, if_neg, iteK_pos, iteK_neg, Tryz.f110]
  refine loop_chg (dyn := []) (fun a : Nat × Nat => [(7, ii a.1), (8, ii a.2)]) (fun _ => []) (fun _ => []) (fun a => a.1 ≤ p ∧ p ≤ a.2 ∧ a.2 ≤ l.length) (fun a => a.2 - a.1) hint_110_0 (by kernel_rfl) ?_ (0, l.length) (by simp [p1]) (by simp)
  rintro ⟨i, j⟩ ⟨h1, h2, h3⟩ IH
  rw [lpB_eq]
  dsimp only at h1 h2 h3 ⊢
  by_cases h : i < j
  · obtain ⟨m, hmm⟩ : ∃ m, m = (i + j) / 2 := ⟨_, rfl⟩
    have e2 : ((i : Int) + j) / 2 = (m : Int) := by omega
    have hm : m < l.length := by omega
    by_cases hx : l[m] < x
    · have hp : m < p := by
        rcases Nat.lt_or_ge m p with h | h
        · exact h
        · have := q3 _ h hm; omega
      simp (disch := omega) [if_pos, if_neg, iteK_pos, iteK_neg, h, Int.fdiv_eq_ediv_of_nonneg, e2, hm, CmpLess, hx, Fl.eW_get]
      exact IH (m + 1, j) _ _ ⟨by dsimp only; omega, by dsimp only; omega, by dsimp only; omega⟩ (by dsimp only; omega) (by simp)
    · have hp : p ≤ m := by
        rcases Nat.lt_or_ge m p with h | h
        · have := q2 _ h hm; omega
        · exact h
      simp (disch := omega) [if_pos, if_neg, iteK_pos, iteK_neg, h, Int.fdiv_eq_ediv_of_nonneg, e2, hm, CmpLess, hx, Fl.eW_get]
      exact IH (i, m) _ _ ⟨by dsimp only; omega, by dsimp only; omega, by dsimp only; omega⟩ (by dsimp only; omega) (by simp)
  · obtain rfl : i = p := by omega
    by_cases hi : i < l.length
    · by_cases he : l[i] = x
      · have hd : x ∈ l := by rw [← he]; exact List.getElem_mem hi
        simp (disch := omega) [if_pos, if_neg, iteK_pos, iteK_neg, h, hi, he, hd, SIsNaN, Fl.eW_get]
      · have hd : ¬ x ∈ l := by
          intro hm
          obtain ⟨k, hk, rfl⟩ := List.getElem_of_mem hm
          rcases Nat.lt_or_ge k i with h4 | h4
          · have := q2 k h4 hk; omega
          · rcases Nat.lt_or_ge i k with h5 | h5
            · have := hs i k h5 hk; have := q3 i (Nat.le_refl _) hi; omega
            · obtain rfl : i = k := by omega
              exact he rfl
        simp (disch := omega) [if_pos, if_neg, iteK_pos, iteK_neg, h, hi, he, hd, SIsNaN, Fl.eW_get]
    · have hd : ¬ x ∈ l := by
        intro hm
        obtain ⟨k, hk, rfl⟩ := List.getElem_of_mem hm
        have := q2 k (by omega) hk; omega
      simp (disch := omega) [if_pos, if_neg, iteK_pos, iteK_neg, h, hi, hd, SIsNaN]
/-- A procedure with its need. -/
abbrev pnV (p : Fl.PR) (need : Int) : V := .agg [.int .u32 p.b, .int .u32 p.e, .int .u32 p.f, ii need]
def ePN : Enc (Fl.PR × Int) where
  enc a := [.int .u32 a.1.b, .int .u32 a.1.e, .int .u32 a.1.f, ii a.2]
  k := 4
  pos := by omega
  len := fun _ => rfl
  canon := fun _ => by simp
  flat := fun _ => by simp
  ok := fun _ => by simp
@[simp] theorem ePN_k : ePN.k = 4 := rfl
@[simp] theorem ePN_enc (a) : ePN.enc a = [.int .u32 a.1.b, .int .u32 a.1.e, .int .u32 a.1.f, ii a.2] := rfl
@[simp] theorem plain_ePN (l) : V.plainL (cat ePN l) = true := cat_plain ePN (fun _ => by simp) l
@[simp] theorem take_ePN (l) (n : Nat) : (cat ePN l).take (n * 4) = cat ePN (l.take n) := cat_take ePN l n
section
variable (s : Fl.PRs) (ts : List (List Nat)) (nd ds : List Int)
theorem WProc (k : Nat) (hk : k < s.1.length) (hnd : nd.length = s.1.length) : pureV E (om E) 64 false [.agg [Fl.procsV s ts, lst Fl.eI nd], ii k] = some (pnV s.1[k] (nd[k]'(by omega))) := by
  apply pu_64
  have hP := Fl.ProcsProc s ts k hk
  have hPc : V.canon (Fl.procsV s ts) = Fl.procsV s ts := by simp [Fl.canon_lsts]
  have hPf : V.flat (Fl.procsV s ts) = true := by simp
  have hPe : V.cell1 (Fl.procsV s ts) = true := by simp
  have hk2 : k < nd.length := by omega
  generalize Fl.procsV s ts = PV at *
  simp (disch := omega) [if_pos, if_neg, iteK_pos, iteK_neg, Tryz.f64, hP, hPc, hPf, hPe, hk2, Fl.eI_get]
theorem WProcs (hs : s.1.length ≤ 16384) (hnd : nd.length = s.1.length) : pureV E (om E) 31 false [.agg [Fl.procsV s ts, lst Fl.eI nd]] = some (lst ePN (s.1.zip nd)) := by
  apply pu_31
  have hC := Fl.ProcsCount s ts hs
  have hPc : V.canon (Fl.procsV s ts) = Fl.procsV s ts := by simp [Fl.canon_lsts]
  have hPf : V.flat (Fl.procsV s ts) = true := by simp
  have hPe : V.cell1 (Fl.procsV s ts) = true := by simp
  have hPs : ∀ k H, V.settle k H (Fl.procsV s ts) = Fl.procsV s ts := fun k H => by simp
  have hW := fun k hk => WProc s ts nd k hk hnd
  generalize Fl.procsV s ts = PV at *
  have hz : (s.1.zip nd).length = s.1.length := by simp; omega
  simp (disch := omega) [if_pos, if_neg, iteK_pos, iteK_neg, Tryz.f31, hC, hPc, hPf, hPe]
  refine loop_chg (dyn := []) (fun n : Nat => [(3, .sref 0 1 0 n n (4, false)), (8, ii n)]) (fun _ => []) (fun n => [.row (cat ePN ((s.1.zip nd).take n)) n 4 true true]) (fun n => n ≤ s.1.length) (fun n => s.1.length - n) hint_31_0 (by kernel_rfl) ?_ 0 (by simp) (by simp)
  intro n hn IH
  rw [lpB_eq]
  by_cases h : n < s.1.length
  · simp (disch := omega) [if_pos, if_neg, iteK_pos, iteK_neg, h, hW, hPc, hPf, hPe, hPs]
    refine IH (n + 1) _ _ (by omega) (by omega) ?_
    rw [take_snoc (by omega), cat_append]
    simp [cat_cons, List.take_take]
  · obtain rfl : n = s.1.length := by omega
    simp (disch := omega) [if_pos, if_neg, iteK_pos, iteK_neg]
    have := res_lst ePN (l := s.1.zip nd) hz.symm (k := 4) rfl
    rw [← hz, List.take_length]
    rw [← hz] at this
    exact this
theorem WProcOf (lent) (i : Nat) (hi : i < s.2.length) (hi' : i < 4294967296) (hk : s.2[i] < s.1.length) (hnd : nd.length = s.1.length) :
    pureV E (om E) 65 lent [.agg [Fl.procsV s ts, lst Fl.eI nd], .int .u32 i] = some (.tuple [pnV s.1[s.2[i]] (nd[s.2[i]]'(by omega)), bb true]) := by
  apply pu_65
  have hO := Fl.ProcsOf s ts i hi hi'
  have hPc : V.canon (Fl.procsV s ts) = Fl.procsV s ts := by simp [Fl.canon_lsts]
  have hPf : V.flat (Fl.procsV s ts) = true := by simp
  have hPe : V.cell1 (Fl.procsV s ts) = true := by simp
  have hW := WProc s ts nd _ hk hnd
  generalize Fl.procsV s ts = PV at *
  simp (disch := omega) [if_pos, if_neg, iteK_pos, iteK_neg, Tryz.f65, hO, hPc, hPf, hPe, hW]
theorem WBegins (lent) (i : Nat) (hi : i < 4294967296) (ho : ∀ p ∈ s.2, p < s.1.length) : pureV E (om E) 67 lent [.agg [Fl.procsV s ts, lst Fl.eI nd], .int .u32 i] = some (bb (Fl.beginsF s i)) := by
  apply pu_67
  have hB := fun lent => Fl.ProcsBegins lent s ts i hi ho
  have hPc : V.canon (Fl.procsV s ts) = Fl.procsV s ts := by simp [Fl.canon_lsts]
  have hPf : V.flat (Fl.procsV s ts) = true := by simp
  have hPe : V.cell1 (Fl.procsV s ts) = true := by simp
  generalize Fl.procsV s ts = PV at *
  simp (disch := omega) [if_pos, if_neg, iteK_pos, iteK_neg, Tryz.f67, hB, hPc, hPf, hPe]
theorem PLegal (lent) (i x : Nat) (hi : i < s.2.length) (hi' : i < 4294967296) (hk : s.2[i] < s.1.length) (ht : ts.length = s.1.length) (hr : Fl.Rising (ts[s.2[i]]'(by omega))) (hl : (ts[s.2[i]]'(by omega)).length ≤ 35184372087808) :
    pureV E (om E) 89 lent [Fl.procsV s ts, .int .u32 i, .int .u32 x] = some (bb (decide (x ∈ ts[s.2[i]]'(by omega)))) := by
  apply pu_89
  have hO := Fl.ProcsOf s ts i hi hi'
  obtain ⟨p, hB⟩ := BSearch _ hl hr x
  have hk2 : s.2[i] < ts.length := by omega
  simp (disch := omega) [if_pos, if_neg, iteK_pos, iteK_neg, Tryz.f89, hO, hB, Fl.canon_lsts, hk2]
theorem WLegal (lent) (i x : Nat) (hi : i < s.2.length) (hi' : i < 4294967296) (hk : s.2[i] < s.1.length) (ht : ts.length = s.1.length) (hr : Fl.Rising (ts[s.2[i]]'(by omega))) (hl : (ts[s.2[i]]'(by omega)).length ≤ 35184372087808) :
    pureV E (om E) 68 lent [.agg [Fl.procsV s ts, lst Fl.eI nd], .int .u32 i, .int .u32 x] = some (bb (decide (x ∈ ts[s.2[i]]'(by omega)))) := by
  apply pu_68
  have hL := fun lent => PLegal s ts lent i x hi hi' hk ht hr hl
  have hPc : V.canon (Fl.procsV s ts) = Fl.procsV s ts := by simp [Fl.canon_lsts]
  have hPf : V.flat (Fl.procsV s ts) = true := by simp
  have hPe : V.cell1 (Fl.procsV s ts) = true := by simp
  generalize Fl.procsV s ts = PV at *
  simp (disch := omega) [if_pos, if_neg, iteK_pos, iteK_neg, Tryz.f68, hL, hPc, hPf, hPe]
end
/-- The depth that a module tells. -/
def depF (ds : List Int) (i : Nat) : Int := ds.getD i (-1)
theorem DDepth (lent) (code : List Instr) (ds : List Int) (hl : ds.length ≤ 16384) (i : Nat) (hi : i < 4294967296) : pureV E (om E) 32 lent [.agg [lst eInstr code, lst Fl.eI ds], .int .u32 i] = some (ii (depF ds i)) := by
  apply pu_32
  unfold depF
  by_cases h : i < ds.length
  · rw [Fl.getD_lt h]
    simp (disch := omega) [if_pos, if_neg, iteK_pos, iteK_neg, Tryz.f32, h, Fl.eI_get]
  · rw [Fl.getD_ge (by omega)]
    simp (disch := omega) [if_pos, if_neg, iteK_pos, iteK_neg, Tryz.f32, h]
def backF (code : List Instr) (ds : List Int) (i : Nat) : Bool := decide (0 < i ∧ 0 ≤ depF ds (i - 1) ∧ ∃ x, code[i - 1]? = some x ∧ x.op.toNat = 5)
theorem DBack (lent) (code : List Instr) (ds : List Int) (hc : code.length = ds.length) (hl : ds.length ≤ 16384) (i : Nat) (hi : i < 4294967296) : pureV E (om E) 45 lent [.agg [lst eInstr code, lst Fl.eI ds], .int .u32 i] = some (bb (backF code ds i)) := by
  apply pu_45
  unfold backF
  by_cases h0 : i = 0
  · subst h0
    simp (disch := omega) [if_pos, if_neg, iteK_pos, iteK_neg, Tryz.f45]
  · obtain ⟨j, rfl⟩ : ∃ j, i = j + 1 := ⟨i - 1, by omega⟩
    have hD := fun lent => DDepth lent code ds hl j (by omega)
    rw [Nat.add_sub_cancel]
    by_cases hd : 0 ≤ depF ds j
    · have hj : j < ds.length := by
        rcases Nat.lt_or_ge j ds.length with h | h
        · exact h
        · unfold depF at hd; rw [Fl.getD_ge h] at hd; omega
      have hj2 : j < code.length := by omega
      by_cases hop : code[j].op.toNat = 5
      · simp (disch := omega) [if_pos, if_neg, iteK_pos, iteK_neg, Tryz.f45, hD, hd, hj2, hop]
      · have hop' : ¬ (code[j].op.toNat : Int) = 5 := by omega
        simp (disch := omega) [if_pos, if_neg, iteK_pos, iteK_neg, Tryz.f45, hD, hd, hj2, hop, hop']
    · simp (disch := omega) [if_pos, if_neg, iteK_pos, iteK_neg, Tryz.f45, hD, hd]
end Go.Proofs.YtnojknodojjnnaaGreat
end
