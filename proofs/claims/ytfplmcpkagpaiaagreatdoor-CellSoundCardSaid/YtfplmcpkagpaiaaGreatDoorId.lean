/-
 image.Encode, walked.
 image.Bits, image.Encode of what may not be written.
-/
import Derived.Test.YtfplmcpkagpaiaaGreatDoorMe
import Derived.Test.YtfplmcpkagpaiaaGreatDoorIc
set_option maxRecDepth 100000
set_option linter.unusedSimpArgs false
set_option linter.unusedVariables false
section
namespace Go.Proofs.YtfplmcpkagpaiaaGreatDoor
open Go Go.Sim
set_option maxHeartbeats 4000000 in
theorem ImageEncode (lent) (x : Img) (hc : checkP x = 0) : pureV E (om E) 20 lent [imgV x] = some (.tuple [bs (encP x), ii 0]) := by
 apply pu_20
 obtain ⟨c1, c2, c3, c4, c5, c6, c7⟩ := check_ok hc
 have hC := fun lent => ImageCheck lent x (by omega) (by omega) (by omega) (by omega)
 simp only [hc] at hC
 have hE := fun lent => IsaEncode lent x.code c1 (code_all hc)
 have hng : ∀ j (hj : j < x.names.length), 1 ≤ x.names[j].name.length ∧ x.names[j].name.length ≤ 32 := fun j hj => name_len hj (names_good c7 j (Nat.zero_le j) hj)
 have hn32 : ∀ n ∈ x.names, n.name.length ≤ 32 := fun n hn => by
  obtain ⟨j, hj, rfl⟩ := List.mem_iff_getElem.1 hn
  exact (hng j hj).2
 have hnl : ∀ k, (namesB (x.names.take k)).length ≤ 37 * 64 := fun k => by
  have := namesB_len (l := x.names.take k) fun n hn => hn32 n (List.mem_of_mem_take hn)
  have h2 : (x.names.take k).length ≤ 64 := by simp; omega
  omega
 have hput2 : ∀ lent (x : UInt32), pureV E (om E) 54 lent [.scon (V.canonL (cutCells [w32 x.toNat] 0 1 1)) 0 1 false] = some (bs (bytes4 x)) := fun lent x => by
  have := Put32 lent [x] (by simp)
  rw [show words [x] = bytes4 x by simp [words]] at this
  exact this
 have hput8 : ∀ lent (x : UInt8), pureV E (om E) 55 lent [.scon (V.canonL (cutCells [w8 x.toNat] 0 1 1)) 0 1 false] = some (bs [x]) := fun lent x => Put8 lent [x] (by simp)
 simp (disch := omega) [if_pos, if_neg, iteK_pos, iteK_neg, Tryz.f20, hC, hE]
 refine loop_use (dyn := []) (fun (i : Nat) => encL x (if i = 0 then .nilslice else bs (namesB (x.names.take i))) i (pois 94)) (fun _ => chkH x) (fun i => i ≤ x.names.length) (fun i => x.names.length - i) hint_20_0 (by kernel_rfl) ?_ 0 (by simp) (by simp [encL, chkH])
 intro i hi IH
 rw [lpB_eq]
 by_cases hlt : i < x.names.length
 ·obtain ⟨m1, m2⟩ := hng i hlt
  have p8 : pureV E (om E) 55 true [.scon (V.canonL (cutCells [.int .u8 (x.names[i].name.length : Int)] 0 1 1)) 0 1 false] = some (bs [UInt8.ofNat x.names[i].name.length]) := by
   have := hput8 true (UInt8.ofNat x.names[i].name.length)
   rw [UInt8.toNat_ofNat', Nat.mod_eq_of_lt (by omega)] at this
   exact this
  have hmu : List.map u8 x.names[i].name = cat eU8 x.names[i].name := (cat_map8e _).symm
  have hstep : namesB (x.names.take (i + 1)) = namesB (x.names.take i) ++ bytes4 x.names[i].place ++ [UInt8.ofNat x.names[i].name.length] ++ x.names[i].name := by
   rw [take_snoc hlt]; unfold namesB; rw [List.flatMap_append, List.flatMap_singleton]; simp [nameB]
  have hcan : ∀ l : List UInt8, V.canon (lst eU8 l) = lst eU8 l := fun l => by simp
  have hnl2 : (namesB (x.names.take (i + 1))).length = (namesB (x.names.take i)).length + (5 + x.names[i].name.length) := by rw [hstep]; simp; omega
  have hnli := hnl i
  have hcut : ∀ n, n = (namesB (x.names.take (i + 1))).length → V.scon (cutCells (cat eU8 (namesB (x.names.take (i + 1)))) 0 n 1) 0 n false = bs (namesB (x.names.take (i + 1))) := fun n hn => by
   rw [cut_all eU8 (k := 1) rfl hn]; exact fold_lst eU8 hn
  by_cases hi0 : i = 0
  ·subst hi0
   simp (disch := omega) [if_pos, if_neg, iteK_pos, iteK_neg, hlt, hput2, p8]
   rw [Concat4_at (a := []) (b := bytes4 x.names[0].place) (c := [UInt8.ofNat x.names[0].name.length]) (d := x.names[0].name) ?hv (by simp [bytes4]) (by simp) (by simp) (by simp) (by simp) (by omega)]
   case hv =>
    simp (disch := omega) [if_pos, if_neg, iteK_pos, iteK_neg]
    rw [hmu]
    show [V.canon .nilslice, V.canon (lst eU8 _), V.canon (lst eU8 _), V.canon (lst eU8 _)] = _
    rw [hcan, hcan, hcan]
    rfl
   rw [show ([] : List UInt8) ++ bytes4 x.names[0].place ++ [UInt8.ofNat x.names[0].name.length] ++ x.names[0].name = namesB (x.names.take (0 + 1)) from by rw [hstep]; rfl]
   have hcut' := hcut (([] : List UInt8).length + (bytes4 x.names[0].place).length + [UInt8.ofNat x.names[0].name.length].length + x.names[0].name.length) (by rw [hnl2]; simp [namesB])
   simp only [List.length_nil, List.length_cons, bytes4_length] at hcut' ⊢
   simp (disch := omega) [if_pos, if_neg, iteK_pos, iteK_neg, hcut']
   exact IH 1 _ _ (by omega) (by omega) (by simp [encL, chkH])
  ·simp (disch := omega) [if_pos, if_neg, iteK_pos, iteK_neg, hlt, hput2, p8, hi0]
   rw [Concat4_at (a := namesB (x.names.take i)) (b := bytes4 x.names[i].place) (c := [UInt8.ofNat x.names[i].name.length]) (d := x.names[i].name) ?hv (by simp [bytes4]) (by simp) (by omega) (by simp) (by simp) (by omega)]
   case hv =>
    simp (disch := omega) [if_pos, if_neg, iteK_pos, iteK_neg]
    rw [hmu]
    show [V.canon (lst eU8 _), V.canon (lst eU8 _), V.canon (lst eU8 _), V.canon (lst eU8 _)] = _
    rw [hcan, hcan, hcan, hcan]
   rw [← hstep]
   have hcut' := hcut ((namesB (x.names.take i)).length + (bytes4 x.names[i].place).length + [UInt8.ofNat x.names[i].name.length].length + x.names[i].name.length) (by rw [hnl2]; simp; omega)
   simp only [List.length_nil, List.length_cons, bytes4_length] at hcut' ⊢
   simp (disch := omega) [if_pos, if_neg, iteK_pos, iteK_neg, hcut']
   exact IH (i + 1) _ _ (by omega) (by omega) (by simp [encL, chkH])
 ·obtain rfl : i = x.names.length := by omega
  have hPj := fun lent => Put32 lent x.jumps (by omega)
  have a0 := encI_len x.code
  have a1 := words_length x.jumps
  have a3 : (namesB x.names).length ≤ 37 * 64 := by have := hnl x.names.length; rw [List.take_of_length_le (by omega)] at this; exact this
  clear IH hi
  by_cases h0 : x.names = []
  ·simp (disch := omega) [if_pos, if_neg, iteK_pos, iteK_neg, hlt, hPj, h0]
   iterate 5
    apply loop_next (dyn := []) hint_20_1 (by kernel_rfl)
    simp (disch := omega) [if_pos, if_neg, iteK_pos, iteK_neg]
    rw [lpB_eq]
    simp (disch := omega) [if_pos, if_neg, iteK_pos, iteK_neg]
   have hLay := LayN true (encI x.code).length (words x.jumps).length x.data.length 0 (by omega)
   rw [show ((0 : Nat) : Int) = 0 from rfl] at hLay
   have hp3 := putT3 true x.code.length (by omega)
   simp (disch := omega) [if_pos, if_neg, iteK_pos, iteK_neg, hLay, conv22, hp3]
   rw [Concat2_at (a := [80, 69, 78, 33]) (b := words [1, 0, UInt32.ofNat x.code.length]) ?hv (by simp) (by simp [words, bytes4]) (by simp) (by simp [words]) (by simp; omega)]
   case hv =>
    simp (disch := omega) [if_pos, if_neg, iteK_pos, iteK_neg]
    show [V.scon (V.canonL [_, _, _, _]) 0 4 false, V.canon (lst eU8 _)] = _
    rw [canon8]
    rfl
   have w3 : (words [1, 0, UInt32.ofNat x.code.length]).length = 12 := by simp [words]
   have w2 : ∀ a b : UInt32, (words [a, b]).length = 8 := fun a b => by simp [words]
   have w4 : ∀ a b c d : UInt32, (words [a, b, c, d]).length = 16 := fun a b c d => by simp [words]
   simp (disch := omega) [if_pos, if_neg, iteK_pos, iteK_neg, w3]
   iterate 5
    apply loop_next (dyn := []) hint_20_2 (by kernel_rfl)
    simp (disch := omega) [if_pos, if_neg, iteK_pos, iteK_neg]
    rw [lpB_eq]
    simp (disch := omega) [if_pos, if_neg, iteK_pos, iteK_neg, putP, w2, w3, w4, putT4]
   iterate 5
    apply loop_next (dyn := []) hint_20_3 (by kernel_rfl)
    simp (disch := omega) [if_pos, if_neg, iteK_pos, iteK_neg, -appV_sref, appV_srefU, w2, w3, w4]
    rw [lpB_eq]
    simp (disch := omega) [if_pos, if_neg, iteK_pos, iteK_neg, -appV_sref, appV_srefU, w2, w3, w4]
   have hF : (encF x).length = 64 + (encI x.code).length + (words x.jumps).length + x.data.length := by
    unfold encF; rw [h0]; simp only [List.length_append, w2, w3, w4]; simp [namesB]
   have k1 : (64 + ((encI x.code).length : Int)).toNat = 64 + (encI x.code).length := by omega
   have k2 : (64 + ((encI x.code).length : Int) + ((words x.jumps).length : Int)).toNat = 64 + (encI x.code).length + (words x.jumps).length := by omega
   have k3 : (64 + ((encI x.code).length : Int) + ((words x.jumps).length : Int) + (x.data.length : Int)).toNat = 64 + (encI x.code).length + (words x.jumps).length + x.data.length := by omega
   rw [sealed_at (l := encF x) ?hv (by omega) (by omega)]
   case hv =>
    simp (disch := omega) [if_pos, if_neg, iteK_pos, iteK_neg]
    simp only [← cat_append, take_eU8]
    simp (disch := first | (simp [w2, w3, w4]; done) | (simp [w2, w3, w4]; omega)) only [List.take_of_length_le]
    rw [k1, k2, k3]
    refine (congrArg (fun q : List UInt8 => V.scon (V.canonL (cutCells (cat eU8 q) 0 _ 1)) 0 _ false) ?_).trans (res_lst eU8 (l := encF x) hF.symm rfl)
    unfold encF; rw [h0]; simp [namesB]
   simp (disch := omega) [if_pos, if_neg, iteK_pos, iteK_neg, hF]
   exact res_lst eU8 (l := encP x) (by unfold encP; rw [sealP_length _ (by omega)]; exact hF.symm) rfl
   all_goals exact .mk
  ·simp (disch := omega) [if_pos, if_neg, iteK_pos, iteK_neg, hlt, hPj, h0]
   iterate 5
    apply loop_next (dyn := []) hint_20_1 (by kernel_rfl)
    simp (disch := omega) [if_pos, if_neg, iteK_pos, iteK_neg]
    rw [lpB_eq]
    simp (disch := omega) [if_pos, if_neg, iteK_pos, iteK_neg]
   have hLay := LayN true (encI x.code).length (words x.jumps).length x.data.length (namesB x.names).length (by omega)
   have hp3 := putT3 true x.code.length (by omega)
   simp (disch := omega) [if_pos, if_neg, iteK_pos, iteK_neg, hLay, conv22, hp3]
   rw [Concat2_at (a := [80, 69, 78, 33]) (b := words [1, 0, UInt32.ofNat x.code.length]) ?hv (by simp) (by simp [words, bytes4]) (by simp) (by simp [words]) (by simp; omega)]
   case hv =>
    simp (disch := omega) [if_pos, if_neg, iteK_pos, iteK_neg]
    show [V.scon (V.canonL [_, _, _, _]) 0 4 false, V.canon (lst eU8 _)] = _
    rw [canon8]
    rfl
   have w3 : (words [1, 0, UInt32.ofNat x.code.length]).length = 12 := by simp [words]
   have w2 : ∀ a b : UInt32, (words [a, b]).length = 8 := fun a b => by simp [words]
   have w4 : ∀ a b c d : UInt32, (words [a, b, c, d]).length = 16 := fun a b c d => by simp [words]
   simp (disch := omega) [if_pos, if_neg, iteK_pos, iteK_neg, w3]
   iterate 5
    apply loop_next (dyn := []) hint_20_2 (by kernel_rfl)
    simp (disch := omega) [if_pos, if_neg, iteK_pos, iteK_neg]
    rw [lpB_eq]
    simp (disch := omega) [if_pos, if_neg, iteK_pos, iteK_neg, putP, w2, w3, w4, putT4]
   iterate 5
    apply loop_next (dyn := []) hint_20_3 (by kernel_rfl)
    simp (disch := omega) [if_pos, if_neg, iteK_pos, iteK_neg, -appV_sref, appV_srefU, w2, w3, w4]
    rw [lpB_eq]
    simp (disch := omega) [if_pos, if_neg, iteK_pos, iteK_neg, -appV_sref, appV_srefU, w2, w3, w4]
   have hF : (encF x).length = 64 + (encI x.code).length + (words x.jumps).length + x.data.length + (namesB x.names).length := by
    unfold encF; simp only [List.length_append, w2, w3, w4]; simp
   have k1 : (64 + ((encI x.code).length : Int)).toNat = 64 + (encI x.code).length := by omega
   have k2 : (64 + ((encI x.code).length : Int) + ((words x.jumps).length : Int)).toNat = 64 + (encI x.code).length + (words x.jumps).length := by omega
   have k3 : (64 + ((encI x.code).length : Int) + ((words x.jumps).length : Int) + (x.data.length : Int)).toNat = 64 + (encI x.code).length + (words x.jumps).length + x.data.length := by omega
   rw [sealed_at (l := encF x) ?hv (by omega) (by omega)]
   case hv =>
    simp (disch := omega) [if_pos, if_neg, iteK_pos, iteK_neg]
    simp only [← cat_append, take_eU8]
    simp (disch := first | (simp [w2, w3, w4]; done) | (simp [w2, w3, w4]; omega)) only [List.take_of_length_le]
    rw [k1, k2, k3]
    refine (congrArg (fun q : List UInt8 => V.scon (V.canonL (cutCells (cat eU8 q) 0 _ 1)) 0 _ false) ?_).trans (res_lst eU8 (l := encF x) hF.symm rfl)
    unfold encF; simp
   simp (disch := omega) [if_pos, if_neg, iteK_pos, iteK_neg, hF]
   exact res_lst eU8 (l := encP x) (by unfold encP; rw [sealP_length _ (by omega)]; exact hF.symm) rfl
   all_goals exact .mk
end Go.Proofs.YtfplmcpkagpaiaaGreatDoor
end
section
namespace Go.Proofs.YtfplmcpkagpaiaaGreatDoor
open Go Go.Sim
def bitsP (r k : Nat) : Nat := if k < 16 then (if 2 ^ k < r then bitsP r (k + 1) else k) else k
termination_by 16 - k
set_option maxHeartbeats 4000000 in
theorem ImageBits_ok (lent) (x : Img) (hc : checkP x = 0) : pureV E (om E) 19 lent [imgV x] = some (.tuple [ii (bitsP (x.data.length + x.zero.toNat + x.stack.toNat) 8), ii 0]) := by
 apply pu_19
 obtain ⟨c1, c2, c3, c4, c5, c6, c7⟩ := check_ok hc
 have hC := fun lent => ImageCheck lent x (by omega) (by omega) (by omega) (by omega)
 simp only [hc] at hC
 have hR := fun lent => room63 lent x.data.length x.zero x.stack (by omega)
 simp (disch := omega) [if_pos, if_neg, iteK_pos, iteK_neg, Tryz.f19, hC]
 obtain ⟨R, hRR⟩ : ∃ R, R = x.data.length + x.zero.toNat + x.stack.toNat := ⟨_, rfl⟩
 rw [← hRR] at c5 ⊢
 have hRi : (x.data.length : Int) + (x.zero.toNat : Int) + (x.stack.toNat : Int) = (R : Int) := by omega
 rw [hRi] at hR
 refine loop_use (dyn := []) (fun (k : Nat) => [imgV x, .pref 0 0 0 0, ii 0, ii 0, ii 0, ii k, imgV x, ii 0, ii 0, bb false, xx] ++ pois 14) (fun _ => chkH x) (fun k => 8 ≤ k ∧ k ≤ 16 ∧ bitsP R 8 = bitsP R k) (fun k => 16 - k) hint_19_0 (by kernel_rfl) ?_ 8 (by simp) (by simp [chkH])
 rintro k ⟨hk8, hk16, hb⟩ IH
 rw [lpB_eq]
 have hst : bitsP R k = if k < 16 then (if 2 ^ k < R then bitsP R (k + 1) else k) else k := by rw [bitsP]
 have hk9 : k = 8 ∨ k = 9 ∨ k = 10 ∨ k = 11 ∨ k = 12 ∨ k = 13 ∨ k = 14 ∨ k = 15 ∨ k = 16 := by omega
 rw [hst] at hb
 by_cases hlt : 2 ^ k < R
 ·have h16 : k < 16 := by
   rcases Nat.lt_or_ge k 16 with h | h
   ·exact h
   ·obtain rfl : k = 16 := by omega
    simp only [Nat.reducePow] at hlt; omega
  rw [if_pos h16, if_pos hlt] at hb
  rcases hk9 with rfl | rfl | rfl | rfl | rfl | rfl | rfl | rfl | rfl
  all_goals simp only [Nat.reducePow] at hlt
  all_goals first | omega | skip
  all_goals simp (disch := omega) [if_pos, if_neg, iteK_pos, iteK_neg, hlt, hR]
  ·exact IH 9 _ _ ⟨by omega, by omega, hb⟩ (by omega) (by simp [chkH])
  ·exact IH 10 _ _ ⟨by omega, by omega, hb⟩ (by omega) (by simp [chkH])
  ·exact IH 11 _ _ ⟨by omega, by omega, hb⟩ (by omega) (by simp [chkH])
  ·exact IH 12 _ _ ⟨by omega, by omega, hb⟩ (by omega) (by simp [chkH])
  ·exact IH 13 _ _ ⟨by omega, by omega, hb⟩ (by omega) (by simp [chkH])
  ·exact IH 14 _ _ ⟨by omega, by omega, hb⟩ (by omega) (by simp [chkH])
  ·exact IH 15 _ _ ⟨by omega, by omega, hb⟩ (by omega) (by simp [chkH])
  ·exact IH 16 _ _ ⟨by omega, by omega, hb⟩ (by omega) (by simp [chkH])
 ·have hb3 : bitsP R 8 = k := by
   rw [hb, if_neg hlt, ite_self]
  rcases hk9 with rfl | rfl | rfl | rfl | rfl | rfl | rfl | rfl | rfl
  all_goals simp only [Nat.reducePow] at hlt
  all_goals simp (disch := omega) [if_pos, if_neg, iteK_pos, iteK_neg, hlt, hR, hb3]
end Go.Proofs.YtfplmcpkagpaiaaGreatDoor
end
