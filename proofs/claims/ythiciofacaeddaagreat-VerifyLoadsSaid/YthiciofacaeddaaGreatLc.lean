/-
 The laws' functions: whole.
-/
import Derived.Test.YthiciofacaeddaaGreatLb
section
namespace Go.Proofs.YthiciofacaeddaaGreat
open Go Go.Sim
set_option maxRecDepth 100000
set_option maxHeartbeats 0
set_option linter.unusedSimpArgs false
set_option linter.unusedVariables false

theorem viewArgs_cons {H : Heap} {a u : V} {vs us : List V} (h : viewArgs H [a] = some [u]) (hr : viewArgs H vs = some us) : viewArgs H (a :: vs) = some (u :: us) := by
 simp only [viewArgs] at h ⊢
 rw [hr]
 generalize (if V.flat a = true then some a else V.view 50 H a) = q at *
 cases q with
 | none => simp at h
 | some y => simp at h ⊢; exact h
theorem bytesLess_eq : ∀ (x y : List UInt8), Op.bytesLess x y = decide (x < y)
 | [], [] => by simp [Op.bytesLess]
 | _ :: _, [] => by simp [Op.bytesLess]
 | [], _ :: _ => by simp [Op.bytesLess]
 | a :: x, b :: y => by
  rw [Op.bytesLess, bytesLess_eq x y]
  simp only [List.cons_lt_cons_iff]
  by_cases h1 : a < b <;> by_cases h2 : a = b <;> by_cases h3 : x < y <;> simp [h1, h2, h3]
theorem lt8_total (a b : UInt8) : a < b ∨ a = b ∨ b < a := by
 rcases Nat.lt_trichotomy a.toNat b.toNat with h | h | h
 ·exact .inl h
 ·exact .inr (.inl (UInt8.toNat_inj.1 h))
 ·exact .inr (.inr h)
theorem ltL_total : ∀ (x y : List UInt8), x < y ∨ x = y ∨ y < x
 | [], [] => .inr (.inl rfl)
 | _ :: _, [] => .inr (.inr (by simp))
 | [], _ :: _ => .inl (by simp)
 | a :: x, b :: y => by
  simp only [List.cons_lt_cons_iff]
  rcases lt8_total a b with h | h | h
  ·exact .inl (.inl h)
  ·subst h
   rcases ltL_total x y with g | g | g
   ·exact .inl (.inr ⟨rfl, g⟩)
   ·subst g; exact .inr (.inl rfl)
   ·exact .inr (.inr (.inr ⟨rfl, g⟩))
  ·exact .inr (.inr (.inl h))
theorem ltL_trans : ∀ (x y z : List UInt8), x < y → y < z → x < z
 | x, y, [], _, h => by simp at h
 | [], _, _ :: _, _, _ => by simp
 | _ :: _, [], _ :: _, h, _ => by simp at h
 | a :: x, b :: y, c :: z, h1, h2 => by
  simp only [List.cons_lt_cons_iff] at *
  rcases h1 with h1 | ⟨rfl, h1⟩ <;> rcases h2 with h2 | ⟨rfl, h2⟩
  ·exact .inl (Nat.lt_trans h1 h2)
  ·exact .inl h1
  ·exact .inl h2
  ·exact .inr ⟨rfl, ltL_trans x y z h1 h2⟩
theorem ltL_ne : ∀ (x y : List UInt8), x < y → x ≠ y
 | x, y, h => by
  have : ∀ x : List UInt8, ¬ x < x := fun x => by
   induction x with
   | nil => simp
   | cons a x ih => simp only [List.cons_lt_cons_iff]; rintro (h | ⟨_, h⟩); exact absurd h (UInt8.lt_irrefl a); exact ih h
  intro e; subst e
  exact this x h
theorem names_rise {l : List Export} (h : ∀ j, j < l.length → nameOk l j = true) : ∀ d j, (h' : j + 1 + d < l.length) → (l[j]'(by omega)).name < l[j + 1 + d].name := by
 have step : ∀ j, (h' : j + 1 < l.length) → (l[j]'(by omega)).name < l[j + 1].name := fun j h' => by
  have := h (j + 1) h'
  unfold nameOk at this
  rw [List.getElem?_eq_getElem h', Nat.add_sub_cancel, List.getElem?_eq_getElem (by omega : j < l.length)] at this
  simp only [Bool.and_eq_true, Bool.or_eq_true, decide_eq_true_eq, Bool.not_eq_true', bytesLess_eq, decide_eq_false_iff_not] at this
  obtain ⟨_, h0 | ⟨h1, h2⟩⟩ := this
  ·omega
  ·rcases ltL_total l[j + 1].name l[j].name with g | g | g
   ·exact absurd g h1
   ·rw [g] at h2; simp at h2
   ·exact g
 intro d
 induction d with
 | zero => intro j h'; exact step j h'
 | succ d ih => intro j h'; exact ltL_trans _ _ _ (ih j (by omega)) (step (j + 1 + d) (by omega))
theorem entry_at {l : List Export} (h : ∀ j, j < l.length → nameOk l j = true) (n : Nat) (hn : n < l.length) : entryF l l[n].name = (l[n].place.toNat, true) := by
 refine entry_step hn (fun j hj h' he => ?_) rfl
 have := names_rise h (n - j - 1) j (by omega)
 have e : j + 1 + (n - j - 1) = n := by omega
 simp only [e] at this
 exact ltL_ne _ _ this he
theorem Whole (x : Img) (h : Taken x) : pureV E (om E) 9 false [modV x, refV x] = some (bb true) := by
 have F := taken_facts h
 obtain ⟨c1, c2, c3, c4, c5, c6, c7⟩ := check_ok h.chk
 have hnm : ∀ n, (hn : n < x.names.length) → entryF x.names x.names[n].name = (x.names[n].place.toNat, true) := fun n hn => entry_at (fun j hj => names_good c7 j (by omega) hj) n hn
 have hM := procs_solid (sF x) (tsF x)
 have hsol : Solid (modM (Fl.procsV (sF x) (tsF x)) (nF x) (dF x) x (bitsI x) (digestP x)) := by
  obtain ⟨g1, g2, g3⟩ := hM
  refine ⟨?_, ?_, ?_⟩ <;> simp [Fl.canon_lsts]
 have hzl : ((sF x).1.zip (nF x)).length = (sF x).1.length := by have := F.nlen; simp; omega
 have hplen := F.plen
 have hR : Solid (refM ((sF x).1.zip (nF x)) (dF x) x (bitsI x)) := by refine ⟨?_, ?_, ?_⟩ <;> simp
 have hB := MBits hM (nF x) (dF x) x (bitsI x) (digestP x) false
 have hCo := MCount hM (nF x) (dF x) x (bitsI x) (digestP x) false
 have hDg := MDigest hM (nF x) (dF x) x (bitsI x) (digestP x) false
 have hDr := RMDigest ((sF x).1.zip (nF x)) (dF x) x (bitsI x) h.chk false
 have hEn := MEntry hM (nF x) (dF x) x (bitsI x) (digestP x) c6
 have hTo := fun (i t : Nat) => Told x h i t
 have hS := fun lent => SameImage_self lent x (by omega) (by omega) (by omega) (by omega)
 have hSp := fun lent => SameProcs_self lent ((sF x).1.zip (nF x)) (by omega)
 have hIm := fun (B : List Blk) (r : Heap) => MImage_at hM (nF x) (dF x) x (bitsI x) (digestP x) (by omega) (by omega) (by omega) (by omega) (a := modM (Fl.procsV (sF x) (tsF x)) (nF x) (dF x) x (bitsI x) (digestP x)) (B := B) (r := r) (by obtain ⟨g1, g2, g3⟩ := hsol; simp [g1, g2, g3])
 have hPr := fun (B : List Blk) (r : Heap) => MProcs_at (sF x) (tsF x) (nF x) (dF x) x (bitsI x) (digestP x) F.plen F.nlen (a := modM (Fl.procsV (sF x) (tsF x)) (nF x) (dF x) x (bitsI x) (digestP x)) (B := B) (r := r) (by obtain ⟨g1, g2, g3⟩ := hsol; simp [g1, g2, g3])
 have hlen := F.len
 rw [mod_eq] at hTo ⊢
 generalize modM (Fl.procsV (sF x) (tsF x)) (nF x) (dF x) x (bitsI x) (digestP x) = M at *
 have hrf : refV x = refM ((sF x).1.zip (nF x)) (dF x) x (bitsI x) := rfl
 rw [hrf] at hTo ⊢
 generalize (sF x).1.zip (nF x) = pl at *
 generalize dF x = ds at *
 obtain ⟨g1, g2, g3⟩ := hsol
 obtain ⟨r1, r2, r3⟩ := hR
 obtain ⟨vc, vj, vd, vn, X, hI, hO⟩ := hIm [] []
 obtain ⟨vp, Y, hP, hQ⟩ := hPr X []
 have hO1 := hO [] [] rfl
 have hQ1 := hQ X [] rfl
 rw [List.nil_append, List.append_nil] at hO1
 rw [List.append_nil] at hQ1
 rw [List.nil_append] at hI
 have v1 := viewArgs_cons (viewArgs_img (r := []) hO1) (vs := [imgV x]) (us := [imgV x]) (by simp)
 have v2 := viewArgs_own (r := []) hQ1 (vs := [lst ePN pl]) (l' := [lst ePN pl]) (by simp)
 have hSc : callV E (om E) 29 [.agg [vc, vj, vd, w32 x.zero.toNat, w32 x.stack.toNat, vn], imgV x] [X] = some (bb true, [X]) := by
  rw [call_29, v1]; simp [hS]
 have hSpc : callV E (om E) 32 [vp, lst ePN pl] [X ++ Y] = some (bb true, [X ++ Y]) := by
  rw [call_32, v2]; simp [hSp]
 clear hO hQ hO1 hQ1 v1 v2
 apply pu_9
 simp (disch := omega) [if_pos, if_neg, iteK_pos, iteK_neg, Tryz.f9, hI, hP, hB, hCo, hSc, hSpc, g1, g2, g3, -call_29, -call_32]
 refine loop_chg (dyn := []) (fun i : Nat => [(5, ii i)]) (fun _ => []) (fun _ => []) (fun i => i ≤ x.code.length + 2) (fun i => x.code.length + 2 - i) hint_9_0 (by kernel_rfl) ?_ 0 (by omega) (by simp)
 intro i hi IH
 rw [lpB_eq]
 by_cases hlt : i < x.code.length + 2
 ·have hT : pureV E (om E) 10 false [M, refM pl ds x (bitsI x), .int .u32 i, .int .u32 ((i : Int) + 1)] = some (bb true) := hTo i (i + 1) (by omega) (by omega)
  have e1 : (i : Int) % 4294967296 = i := by omega
  have e2 : ((i : Int) + 1) % 4294967296 = (i : Int) + 1 := by omega
  clear hnm hTo hEn hIm hPr
  simp (disch := omega) [if_pos, if_neg, iteK_pos, iteK_neg, hlt, hT, e1, e2, g1, g2, g3]
  exact IH (i + 1) _ _ (by omega) (by omega) (by simp)
 ·obtain rfl : i = x.code.length + 2 := by omega
  clear IH hi
  simp (disch := omega) [if_pos, if_neg, iteK_pos, iteK_neg, hlt]
  refine loop_chg (dyn := []) (fun i : Nat => [(6, ii i)]) (fun _ => []) (fun _ => []) (fun i => i ≤ x.names.length) (fun i => x.names.length - i) hint_9_1 (by kernel_rfl) ?_ 0 (by omega) (by simp)
  intro i hi IH
  rw [lpB_eq]
  by_cases hlt : i < x.names.length
  ·have hE := hEn x.names[i].name
   rw [hnm i hlt] at hE
   clear hnm hTo hEn hIm hPr
   simp (disch := omega) [if_pos, if_neg, iteK_pos, iteK_neg, hlt, hE, g1, g2, g3]
   exact IH (i + 1) _ _ (by omega) (by omega) (by simp)
  ·obtain rfl : i = x.names.length := by omega
   clear hnm hTo hEn hIm hPr
   simp (disch := omega) [if_pos, if_neg, iteK_pos, iteK_neg, hDg, hDr, g1, g2, g3]
end Go.Proofs.YthiciofacaeddaaGreat
end
