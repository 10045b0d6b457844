/-
 verify.Take: what is taken, of an image that is nobody's.
-/
import Derived.Test.YtfplmcpkagpaiaaGreatDoorVa
set_option maxRecDepth 100000
set_option maxHeartbeats 0
set_option linter.unusedSimpArgs false
set_option linter.unusedVariables false
section
namespace Go.Proofs.YtfplmcpkagpaiaaGreatDoor
open Go Go.Sim
set_option maxRecDepth 200000 in
theorem Take_ok (x : Img) (h : Taken x) : pureV E (om E) 6 false [imgV x] = some (.tuple [modX (Fl.procsV (sF x) (tsF x)) x, ii 0, ii 0]) := by
 have hchk := h.chk
 obtain ⟨c1, c2, c3, c4, c5, c6, c7⟩ := check_ok hchk
 have hfit := fits_fl hchk
 have hC := fun lent => ImageCheck lent x (by omega) (by omega) (by omega) (by omega)
 simp only [hchk] at hC
 have hV := Copied1 x (by omega) (by omega) (by omega) (by omega)
 have hF := fun lent => Fl.FindN_ok lent (names := x.names) (by omega) hfit h.find h.names
 rw [← lst_fl, ← ws_fl] at hF
 have hD := fun (B : List Blk) (r : Heap) (a1 a2 : V) (hv : viewArgs (B :: r) [a1, a2] = some [lst Fl.eInstr (cF x), lst Fl.eW (jF x)]) => Fl.Depths_at hfit h.find h.all hv
 rw [← lst_fl, ← ws_fl] at hD
 have hB := fun lent => ImageBits_ok lent x hchk
 have hE := fun lent => ImageEncode lent x hchk
 have hlen : (encP x).length < 2 ^ 40 := by have := enc_small hchk; omega
 have hS := fun lent => Sum lent (encP x) hlen
 have F := taken_facts h
 have hnl : (Fl.cutF (cF x)).1.length = (Fl.needF (cF x) (jF x)).length := F.nlen.symm
 have hdl : x.code.length = (Fl.dsF (cF x) (jF x)).length := F.dlen.symm
 have hdig : IntKind.u64.wrap (IntKind.u64.wrap (((adler (encP x)).toNat : Int) * 4294967296) + (encP x).length) = (digestP x : Int) := by
  have := (adler (encP x)).toNat_lt
  have := enc_small hchk
  rw [IntKind.wrap_u64, IntKind.wrap_u64]
  unfold digestP
  omega
 have hcl : ¬ x.code.length = 0 := by have := F.pos; omega
 have e2 : x.jumps.length = 0 → ws x.jumps = .scon [] 0 0 false := fun h => by rw [List.length_eq_zero_iff.1 h]; rfl
 have e3 : x.data.length = 0 → bs x.data = .scon [] 0 0 false := fun h => by rw [List.length_eq_zero_iff.1 h]; rfl
 have e4 : x.names.length = 0 → lst eExport x.names = .scon [] 0 0 false := fun h => by rw [List.length_eq_zero_iff.1 h]; rfl
 have hlc : (cF x).length = x.code.length := by simp [cF]
 have ej : x.jumps.length = (jF x).length := (List.length_map ..).symm
 have hln : (Fl.cutF (cF x)).1.length = (nF x).length := hnl
 have hld : x.code.length = (dF x).length := hdl
 obtain ⟨R1, R2, hV⟩ := hV (.row [lst eInstr x.code, ws x.jumps, bs x.data, w32 x.zero.toNat, w32 x.stack.toNat, lst eExport x.names] 0 6 true false)
 apply pu_6
 by_cases d2 : x.jumps.length = 0 <;> by_cases d3 : x.data.length = 0 <;> by_cases d4 : x.names.length = 0 <;>
 (simp only [cv, cn, cr, if_neg hcl] at hV
  first | simp only [if_pos d2] at hV | simp only [if_neg d2] at hV
  first | simp only [if_pos d3] at hV | simp only [if_neg d3] at hV
  first | simp only [if_pos d4] at hV | simp only [if_neg d4] at hV
  simp only [imgV] at hC hB hE hF hD hV ⊢
  try simp only [e2 d2] at hC hB hE hF hD hV ⊢
  try simp only [e3 d3] at hC hB hE hV ⊢
  try simp only [e4 d4] at hC hB hE hF hV ⊢
  simp (disch := omega) [if_pos, if_neg, iteK_pos, iteK_neg, Tryz.f6, hC, hV, hF]
  rw [hD _ _ _ _ (by simp)]
  simp (disch := omega) [if_pos, if_neg, iteK_pos, iteK_neg, hB, hE, hS]
  rw [hdig, hnl, hdl]
  simp (disch := omega) [if_pos, if_neg, iteK_pos, iteK_neg, Fl.canon_lsts]
  try simp only [e2 d2]
  try simp only [e3 d3]
  try simp only [e4 d4]
  try simp only [true_and]
  exact ⟨⟨by rw [ej], by rw [ej]⟩, rfl⟩)
end Go.Proofs.YtfplmcpkagpaiaaGreatDoor
end
