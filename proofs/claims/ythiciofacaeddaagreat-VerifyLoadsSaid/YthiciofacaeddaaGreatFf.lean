/-
 The heap of indices: the methods, down, up, Pop, Push.
 slices.Repeat of one number.
 Plain facts of the heap and of the walk.
 flow's walk through a procedure.
-/
import Derived.Test.YthiciofacaeddaaGreatFe
import Derived.Test.YthiciofacaeddaaGreatMd
section
namespace Go.Proofs.YthiciofacaeddaaGreat.Fl
open Go Go.Sim
set_option maxRecDepth 100000
set_option maxHeartbeats 0
set_option linter.unusedSimpArgs false
set_option linter.unusedVariables false

def eI : Enc Int where
 enc n := [ii n]
 k := 1
 pos := by omega
 len := fun _ => rfl
 canon := fun _ => by simp
 flat := fun _ => by simp
 ok := fun _ => by simp
@[simp] theorem eI_k : eI.k = 1 := rfl
@[simp] theorem eI_enc (n) : eI.enc n = [ii n] := rfl
@[simp] theorem plain_eI (l : List Int) : V.plainL (cat eI l) = true := cat_plain eI (fun _ => by simp) l
@[simp] theorem take_eI (l : List Int) (n : Nat) : (cat eI l).take n = cat eI (l.take n) := by simpa using cat_take eI l n
@[simp] theorem drop_eI (l : List Int) (n : Nat) : (cat eI l).drop n = cat eI (l.drop n) := by simpa using cat_drop eI l n
@[simp] theorem cut_eI (l : List Int) : cutCells (cat eI l) 0 l.length 1 = cat eI l := cut_all eI rfl rfl
@[simp] theorem fold_eI (l : List Int) : V.scon (cat eI l) 0 l.length false = lst eI l := rfl
theorem eI_get {l : List Int} {i : Nat} (h : i < l.length) : (cat eI l)[i]? = some (ii l[i]) := by
 have := cat_get eI l i 0 (by simp)
 simpa [h] using this

abbrev hpB (l junk : List Int) (ep : Nat) (q : Bool) (T : List Blk) : List Blk := .row (cat eI (l ++ junk)) ep 1 true true :: .row [.sref 0 0 0 l.length ep (1, q)] 0 1 false false :: T
theorem cat_eI_map (l : List Int) : cat eI l = l.map fun n => ii n := by
 induction l with
 | nil => rfl
 | cons x l ih => rw [cat_cons, ih]; rfl
theorem cat_eI_set (l : List Int) (i : Nat) (x : Int) : (cat eI l).set i (ii x) = cat eI (l.set i x) := by
 rw [cat_eI_map, cat_eI_map, List.map_set]
theorem mDeref {name : String} {f : FuncId} (hm : ((Tryz.prog.info? 240).bind fun i => (i.methods.find? (·.name == name)).map fun m => (m.path.isEmpty, m.func)) = some (true, some (f, false))) (h : Heap) (v : V) : methodV Tryz.prog h (.iface 240 v) name = (nilCheckV v).bind fun p => (loadV Tryz.prog h 241 p).map fun x => (f, x) := by
 simp only [Option.bind_eq_some_iff, Option.map_eq_some_iff, Prod.mk.injEq] at hm
 obtain ⟨i, hi, m, hm, hp, hf⟩ := hm
 unfold methodV
 simp only [hi, Option.bind_some, hm, hp, if_true, hf]
 rw [show Tryz.prog.underlying 240 = some (.pointer 241) by kernel_rfl]
theorem mPtr {name : String} {f : FuncId} (hm : ((Tryz.prog.info? 240).bind fun i => (i.methods.find? (·.name == name)).map fun m => (m.path.isEmpty, m.func)) = some (true, some (f, true))) (h : Heap) (v : V) : methodV Tryz.prog h (.iface 240 v) name = some (f, v) := by
 simp only [Option.bind_eq_some_iff, Option.map_eq_some_iff, Prod.mk.injEq] at hm
 obtain ⟨i, hi, m, hm, hp, hf⟩ := hm
 unfold methodV
 simp only [hi, Option.bind_some, hm, hp, if_true, hf]
 rw [show Tryz.prog.underlying 240 = some (.pointer 241) by kernel_rfl]
theorem mLen (h : Heap) (v : V) : methodV Tryz.prog h (.iface 240 v) "Len" = (nilCheckV v).bind fun p => (loadV Tryz.prog h 241 p).map fun x => (183, x) := mDeref (by kernel_rfl) h v
theorem mLess (h : Heap) (v : V) : methodV Tryz.prog h (.iface 240 v) "Less" = (nilCheckV v).bind fun p => (loadV Tryz.prog h 241 p).map fun x => (219, x) := mDeref (by kernel_rfl) h v
theorem mSwap (h : Heap) (v : V) : methodV Tryz.prog h (.iface 240 v) "Swap" = (nilCheckV v).bind fun p => (loadV Tryz.prog h 241 p).map fun x => (222, x) := mDeref (by kernel_rfl) h v
theorem mPop (h : Heap) (v : V) : methodV Tryz.prog h (.iface 240 v) "Pop" = some (220, v) := mPtr (by kernel_rfl) h v
theorem mPush (h : Heap) (v : V) : methodV Tryz.prog h (.iface 240 v) "Push" = some (221, v) := mPtr (by kernel_rfl) h v
theorem HLen (lent) (l : List Int) : pureV E (om E) 183 lent [lst eI l] = some (ii l.length) := by
 apply pu_183
 simp (disch := omega) [if_pos, if_neg, iteK_pos, iteK_neg, Tryz.f183]
theorem HLess (lent) (l : List Int) (i j : Nat) (hi : i < l.length) (hj : j < l.length) : pureV E (om E) 219 lent [lst eI l, ii i, ii j] = some (bb (decide (l[i] < l[j]))) := by
 apply pu_219
 simp (disch := omega) [if_pos, if_neg, iteK_pos, iteK_neg, Tryz.f219, hi, hj]
def swapF (l : List Int) (i j : Nat) : List Int := (l.set i (l.getD j 0)).set j (l.getD i 0)
theorem swapF_len (l i j) : (swapF l i j).length = l.length := by simp [swapF]
theorem HSwap (l junk : List Int) (ep : Nat) (q : Bool) (T : List Blk) (r : Heap) (i j : Nat) (hi : i < l.length) (hj : j < l.length) : callV E (om E) 222 [.sref 2 0 0 l.length ep (1, q), ii i, ii j] ([] :: [] :: hpB l junk ep q T :: r) = some (.tuple [], [] :: [] :: hpB (swapF l i j) junk ep q T :: r) := by
 rw [call_222]
 have key : bodyV E (om E) 222 (V.upL 1 [.sref 2 0 0 l.length ep (1, q), ii i, ii j]) ([] :: [] :: [] :: hpB l junk ep q T :: r) = some (.tuple [], [] :: [] :: [] :: hpB (swapF l i j) junk ep q T :: r) := by
  apply bo_222
  have hi2 : i < (l ++ junk).length := by simp; omega
  have hj2 : j < (l ++ junk).length := by simp; omega
  simp (disch := omega) [if_pos, if_neg, iteK_pos, iteK_neg, Tryz.f222, hi, hj, eI_get, hi2, hj2]
  constructor
  ·rw [cat_eI_set, cat_eI_set, List.set_append_left _ _ hi, List.set_append_left _ _ (by simpa using hj)]
   simp [swapF, hi, hj]
  ·simp [swapF]
 rw [key]
 simp
theorem HSwap1 (l junk : List Int) (ep : Nat) (q : Bool) (T : List Blk) (r : Heap) (i j : Nat) (hi : i < l.length) (hj : j < l.length) : callV E (om E) 222 [.sref 1 0 0 l.length ep (1, q), ii i, ii j] ([] :: hpB l junk ep q T :: r) = some (.tuple [], [] :: hpB (swapF l i j) junk ep q T :: r) := by
 rw [call_222]
 have key : bodyV E (om E) 222 (V.upL 1 [.sref 1 0 0 l.length ep (1, q), ii i, ii j]) ([] :: [] :: hpB l junk ep q T :: r) = some (.tuple [], [] :: [] :: hpB (swapF l i j) junk ep q T :: r) := by
  apply bo_222
  have hi2 : i < (l ++ junk).length := by simp; omega
  have hj2 : j < (l ++ junk).length := by simp; omega
  simp (disch := omega) [if_pos, if_neg, iteK_pos, iteK_neg, Tryz.f222, hi, hj, eI_get, hi2, hj2]
  constructor
  ·rw [cat_eI_set, cat_eI_set, List.set_append_left _ _ hi, List.set_append_left _ _ (by simpa using hj)]
   simp [swapF, hi, hj]
  ·simp [swapF]
 rw [key]
 simp

theorem HLessI (lent) (l : List Int) (i j : Nat) (x y : Int) (hx : x = i) (hy : y = j) (hi : i < l.length) (hj : j < l.length) : pureV E (om E) 219 lent [lst eI l, ii x, ii y] = some (bb (decide (l[i] < l[j]))) := by
 subst hx hy; exact HLess lent l i j hi hj
theorem HSwapI (l junk : List Int) (ep : Nat) (q : Bool) (T : List Blk) (r : Heap) (i j : Nat) (x y : Int) (hx : x = i) (hy : y = j) (hi : i < l.length) (hj : j < l.length) : callV E (om E) 222 [.sref 2 0 0 l.length ep (1, q), ii x, ii y] ([] :: [] :: hpB l junk ep q T :: r) = some (.tuple [], [] :: [] :: hpB (swapF l i j) junk ep q T :: r) := by
 subst hx hy; exact HSwap l junk ep q T r i j hi hj
theorem HSwapI1 (l junk : List Int) (ep : Nat) (q : Bool) (T : List Blk) (r : Heap) (i j : Nat) (x y : Int) (hx : x = i) (hy : y = j) (hi : i < l.length) (hj : j < l.length) : callV E (om E) 222 [.sref 1 0 0 l.length ep (1, q), ii x, ii y] ([] :: hpB l junk ep q T :: r) = some (.tuple [], [] :: hpB (swapF l i j) junk ep q T :: r) := by
 subst hx hy; exact HSwap1 l junk ep q T r i j hi hj
theorem upIf_f1 (vs : List V) : V.upIf false 1 vs = V.upL 1 vs := rfl
theorem upIf_f2 (vs : List V) : V.upIf false 2 vs = V.upL 2 vs := rfl
theorem cut_pre (l junk : List Int) : cutCells (cat eI (l ++ junk)) 0 l.length 1 = cat eI l := by
 have := cat_cut eI (l ++ junk) 0 l.length
 simpa using this
def pickJ (n : Nat) (l : List Int) (i : Nat) : Nat := if 2 * i + 2 < n ∧ l.getD (2 * i + 2) 0 < l.getD (2 * i + 1) 0 then 2 * i + 2 else 2 * i + 1
def downN (n : Nat) : Nat → List Int → Nat → List Int × Nat
 | 0, l, i => (l, i)
 | fuel + 1, l, i =>
  if n ≤ 2 * i + 1 then (l, i)
  else if l.getD (pickJ n l i) 0 < l.getD i 0 then downN n fuel (swapF l i (pickJ n l i)) (pickJ n l i) else (l, i)
abbrev downSlots (n i : Nat) : List V := [.iface 240 (.pref 2 1 0 0), ii 0, ii n, xx, xx, xx, .bool false, ii i, xx, xx, xx, ii 0] ++ pois 36
theorem HDown (l junk : List Int) (ep : Nat) (q : Bool) (T : List Blk) (r : Heap) (n : Nat) (hn : n ≤ l.length) (hl : l.length ≤ 1099511627776) : callV E (om E) 196 [.iface 240 (.pref 1 1 0 0), ii 0, ii n] ([] :: hpB l junk ep q T :: r) = some (.bool (decide (0 < (downN n n l 0).2)), [] :: hpB (downN n n l 0).1 junk ep q T :: r) := by
 rw [call_196]
 have key : bodyV E (om E) 196 (V.upL 1 [.iface 240 (.pref 1 1 0 0), ii 0, ii n]) ([] :: [] :: hpB l junk ep q T :: r) = some (.bool (decide (0 < (downN n n l 0).2)), [] :: [] :: hpB (downN n n l 0).1 junk ep q T :: r) := by
  apply bo_196
  simp (disch := omega) [if_pos, if_neg, iteK_pos, iteK_neg, Tryz.f196]
  refine loop_use (dyn := []) (fun (a : List Int × Nat × Nat) => downSlots n a.2.1)
   (fun a => [] :: [] :: hpB a.1 junk ep q T :: r) (fun a => a.1.length = l.length ∧ a.2.1 ≤ n ∧ n ≤ a.2.1 + a.2.2 ∧ downN n a.2.2 a.1 a.2.1 = downN n n l 0) (fun a => a.2.2) hint_196_0 (by kernel_rfl) ?_ (l, 0, n) ⟨rfl, by simp, by simp, rfl⟩ (by simp [downSlots])
  rintro ⟨m, i, f⟩ ⟨h1, h0, h2, h3⟩ IH
  rw [lpB_eq]
  dsimp only at h1 h0 h2 h3 ⊢
  by_cases c1 : n ≤ 2 * i + 1
  ·have hres : downN n n l 0 = (m, i) := by
    rw [← h3]
    cases f with
    | zero => rfl
    | succ f => rw [downN, if_pos c1]
   rw [hres]
   simp (disch := omega) [if_pos, if_neg, iteK_pos, iteK_neg, c1]
  ·obtain ⟨f, rfl⟩ : ∃ f', f = f' + 1 := Nat.exists_eq_succ_of_ne_zero (by omega)
   rw [downN, if_neg c1] at h3
   have hm1 : 2 * i + 1 < m.length := by omega
   have hm0 : i < m.length := by omega
   have A3 := fun lent => HLessI lent m (2 * i + 1) i (2 * (i : Int) + 1) i (by omega) rfl hm1 hm0
   have B3 := HSwapI m junk ep q T r i (2 * i + 1) i (2 * (i : Int) + 1) rfl (by omega) hm0 hm1
   by_cases c23 : 2 * i + 2 < n ∧ m.getD (2 * i + 2) 0 < m.getD (2 * i + 1) 0
   ·have hJ : pickJ n m i = 2 * i + 2 := if_pos c23
    obtain ⟨c2, c3⟩ := c23
    have hm2 : 2 * i + 2 < m.length := by omega
    have A1 := fun lent => HLessI lent m (2 * i + 2) (2 * i + 1) (2 * (i : Int) + 1 + 1) (2 * (i : Int) + 1) (by omega) (by omega) hm2 hm1
    have A2 := fun lent => HLessI lent m (2 * i + 2) i (2 * (i : Int) + 1 + 1) i (by omega) rfl hm2 hm0
    have B2 := HSwapI m junk ep q T r i (2 * i + 2) i (2 * (i : Int) + 1 + 1) rfl (by omega) hm0 hm2
    rw [getD_lt hm2, getD_lt hm1] at c3
    rw [hJ, getD_lt hm2, getD_lt hm0] at h3
    by_cases c4 : m[2 * i + 2] < m[i]
    ·rw [if_pos c4] at h3
     simp (disch := omega) [if_pos, if_neg, iteK_pos, iteK_neg, c1, c2, c3, c4, mLess, mSwap, A1, A2, B2, upIf_f1, upIf_f2, cut_pre]
     exact IH (swapF m i (2 * i + 2), 2 * i + 2, f) _ _ ⟨by simp only [swapF_len, h1], by dsimp only; omega, by dsimp only; omega, h3⟩ (by dsimp only; omega) (by simp [downSlots, show (2 : Int) * i + 1 + 1 = 2 * i + 2 by omega])
    ·rw [if_neg c4] at h3
     simp (disch := omega) [if_pos, if_neg, iteK_pos, iteK_neg, c1, c2, c3, c4, mLess, mSwap, A1, A2, ← h3, upIf_f1, upIf_f2, cut_pre]
   ·have hJ : pickJ n m i = 2 * i + 1 := if_neg c23
    rw [hJ, getD_lt hm1, getD_lt hm0] at h3
    by_cases c4 : m[2 * i + 1] < m[i]
    ·rw [if_pos c4] at h3
     by_cases c2 : 2 * i + 2 < n
     ·have hm2 : 2 * i + 2 < m.length := by omega
      have A1 := fun lent => HLessI lent m (2 * i + 2) (2 * i + 1) (2 * (i : Int) + 1 + 1) (2 * (i : Int) + 1) (by omega) (by omega) hm2 hm1
      have c3 : ¬ m[2 * i + 2] < m[2 * i + 1] := by
       intro hc; refine c23 ⟨c2, ?_⟩; rw [getD_lt hm2, getD_lt hm1]; exact hc
      simp (disch := omega) [if_pos, if_neg, iteK_pos, iteK_neg, c1, c2, c3, c4, mLess, mSwap, A1, A3, B3, upIf_f1, upIf_f2, cut_pre]
      exact IH (swapF m i (2 * i + 1), 2 * i + 1, f) _ _ ⟨by simp only [swapF_len, h1], by dsimp only; omega, by dsimp only; omega, h3⟩ (by dsimp only; omega) (by simp [downSlots])
     ·simp (disch := omega) [if_pos, if_neg, iteK_pos, iteK_neg, c1, c2, c4, mLess, mSwap, A3, B3, upIf_f1, upIf_f2, cut_pre]
      exact IH (swapF m i (2 * i + 1), 2 * i + 1, f) _ _ ⟨by simp only [swapF_len, h1], by dsimp only; omega, by dsimp only; omega, h3⟩ (by dsimp only; omega) (by simp [downSlots])
    ·rw [if_neg c4] at h3
     by_cases c2 : 2 * i + 2 < n
     ·have hm2 : 2 * i + 2 < m.length := by omega
      have A1 := fun lent => HLessI lent m (2 * i + 2) (2 * i + 1) (2 * (i : Int) + 1 + 1) (2 * (i : Int) + 1) (by omega) (by omega) hm2 hm1
      have c3 : ¬ m[2 * i + 2] < m[2 * i + 1] := by
       intro hc; refine c23 ⟨c2, ?_⟩; rw [getD_lt hm2, getD_lt hm1]; exact hc
      simp (disch := omega) [if_pos, if_neg, iteK_pos, iteK_neg, c1, c2, c3, c4, mLess, mSwap, A1, A3, ← h3, upIf_f1, upIf_f2, cut_pre]
     ·simp (disch := omega) [if_pos, if_neg, iteK_pos, iteK_neg, c1, c2, c4, mLess, mSwap, A3, ← h3, upIf_f1, upIf_f2, cut_pre]
 rw [key]
 simp
def upN : Nat → List Int → Nat → List Int
 | 0, l, j => l
 | fuel + 1, l, j => if j = 0 then l else if l.getD j 0 < l.getD ((j - 1) / 2) 0 then upN fuel (swapF l ((j - 1) / 2) j) ((j - 1) / 2) else l
abbrev upSlots (j : Nat) : List V := [.iface 240 (.pref 2 1 0 0), ii j, xx, xx] ++ pois 19
theorem HUp (l junk : List Int) (ep : Nat) (q : Bool) (T : List Blk) (r : Heap) (j0 : Nat) (hj0 : j0 < l.length) (hl : l.length ≤ 1099511627776) : callV E (om E) 199 [.iface 240 (.pref 1 1 0 0), ii j0] ([] :: hpB l junk ep q T :: r) = some (.tuple [], [] :: hpB (upN (j0 + 1) l j0) junk ep q T :: r) := by
 rw [call_199]
 have key : bodyV E (om E) 199 (V.upL 1 [.iface 240 (.pref 1 1 0 0), ii j0]) ([] :: [] :: hpB l junk ep q T :: r) = some (.tuple [], [] :: [] :: hpB (upN (j0 + 1) l j0) junk ep q T :: r) := by
  apply bo_199
  simp (disch := omega) [if_pos, if_neg, iteK_pos, iteK_neg, Tryz.f199]
  refine loop_use (dyn := []) (fun (a : List Int × Nat × Nat) => upSlots a.2.1)
   (fun a => [] :: [] :: hpB a.1 junk ep q T :: r) (fun a => a.1.length = l.length ∧ a.2.1 ≤ j0 ∧ a.2.1 < a.2.2 ∧ upN a.2.2 a.1 a.2.1 = upN (j0 + 1) l j0) (fun a => a.2.2) hint_199_0 (by kernel_rfl) ?_ (l, j0, j0 + 1) ⟨rfl, by simp, by simp, rfl⟩ (by simp [upSlots])
  rintro ⟨m, j, f⟩ ⟨h1, h0, h2, h3⟩ IH
  rw [lpB_eq]
  dsimp only at h1 h0 h2 h3 ⊢
  obtain ⟨f, rfl⟩ : ∃ f', f = f' + 1 := Nat.exists_eq_succ_of_ne_zero (by omega)
  rw [upN] at h3
  by_cases c0 : j = 0
  ·rw [if_pos c0] at h3
   subst c0
   simp (disch := omega) [if_pos, if_neg, iteK_pos, iteK_neg, h3]
  ·rw [if_neg c0] at h3
   have hm1 : j < m.length := by omega
   have hm0 : (j - 1) / 2 < m.length := by omega
   have e1 : ((j : Int) - 1) / 2 = (((j - 1) / 2 : Nat) : Int) := by omega
   have A1 := fun lent => HLess lent m j ((j - 1) / 2) hm1 hm0
   have B1 := HSwap m junk ep q T r ((j - 1) / 2) j hm0 hm1
   rw [getD_lt hm1, getD_lt hm0] at h3
   generalize hi : (j - 1) / 2 = i at *
   by_cases c4 : m[j] < m[i]
   ·rw [if_pos c4] at h3
    simp (disch := omega) [if_pos, if_neg, iteK_pos, iteK_neg, c0, c4, mLess, mSwap, A1, B1, e1, upIf_f1, upIf_f2, cut_pre]
    exact IH (swapF m i j, i, f) _ _ ⟨by simp only [swapF_len, h1], by dsimp only; omega, by dsimp only; omega, h3⟩ (by dsimp only; omega) (by simp [upSlots])
   ·rw [if_neg c4] at h3
    simp (disch := omega) [if_pos, if_neg, iteK_pos, iteK_neg, c0, c4, mLess, mSwap, A1, ← h3, e1, upIf_f1, upIf_f2, cut_pre]
 rw [key]
 simp
theorem HPopM (l junk : List Int) (x : Int) (ep : Nat) (q : Bool) (T : List Blk) (r : Heap) (hl : l.length ≤ 1099511627776) : callV E (om E) 220 [.pref 1 1 0 0] ([] :: hpB (l ++ [x]) junk ep q T :: r) = some (.iface 3 (ii x), [] :: hpB l (x :: junk) ep false T :: r) := by
 rw [call_220]
 have key : bodyV E (om E) 220 (V.upL 1 [.pref 1 1 0 0]) ([] :: [] :: hpB (l ++ [x]) junk ep q T :: r) = some (.iface 3 (ii x), [] :: [] :: hpB l (x :: junk) ep false T :: r) := by
  apply bo_220
  have hg : (cat eI (l ++ x :: junk))[l.length]? = some (ii x) := by rw [eI_get (by simp)]; simp
  simp (disch := omega) [if_pos, if_neg, iteK_pos, iteK_neg, Tryz.f220, upIf_f1, upIf_f2, hg]
 rw [key]
 simp
theorem HPushM (l junk : List Int) (x : Int) (ep : Nat) (T : List Blk) (r : Heap) (hl : l.length ≤ 1099511627776) : callV E (om E) 221 [.pref 1 1 0 0, .iface 3 (ii x)] ([] :: hpB l junk ep false T :: r) = some (.tuple [], [] :: hpB (l ++ [x]) [] (ep + 1) false T :: r) := by
 rw [call_221]
 have key : bodyV E (om E) 221 (V.upL 1 [.pref 1 1 0 0, .iface 3 (ii x)]) ([] :: [] :: hpB l junk ep false T :: r) = some (.tuple [], [Blk.row [ii x] 0 1 true true] :: [] :: hpB (l ++ [x]) [] (ep + 1) false T :: r) := by
  apply bo_221
  simp (disch := omega) [if_pos, if_neg, iteK_pos, iteK_neg, Tryz.f221, upIf_f1, upIf_f2]
  rw [cat_append]; rfl
 rw [key]
 simp

def popF (l : List Int) : Int × List Int :=
 let m := (downN (l.length - 1) (l.length - 1) (swapF l 0 (l.length - 1)) 0).1
 (m.getD (l.length - 1) 0, m.take (l.length - 1))
def pushF (l : List Int) (x : Int) : List Int := upN (l.length + 1) (l ++ [x]) l.length
theorem downN_len (n : Nat) : ∀ f l i, (downN n f l i).1.length = l.length
 | 0, l, i => rfl
 | f + 1, l, i => by
  rw [downN]; split
  ·rfl
  ·split
   ·rw [downN_len n f]; exact swapF_len _ _ _
   ·rfl
theorem swapF_perm (l : List Int) (i j : Nat) (hi : i < l.length) (hj : j < l.length) : (swapF l i j).Perm l := by
 unfold swapF
 rw [getD_lt hi, getD_lt hj]
 exact List.set_set_perm hi hj
theorem HPop (l junk : List Int) (ep : Nat) (q : Bool) (T : List Blk) (r : Heap) (h0 : 0 < l.length) (hl : l.length ≤ 1099511627776) : callV E (om E) 184 [.iface 240 (.pref 0 1 0 0)] (hpB l junk ep q T :: r) = some (.iface 3 (ii (popF l).1), hpB (popF l).2 ((popF l).1 :: junk) ep false T :: r) := by
 rw [call_184]
 have e1 : (l.length : Int) - 1 = ((l.length - 1 : Nat) : Int) := by omega
 have B1 := HSwapI1 l junk ep q T r 0 (l.length - 1) 0 ((l.length - 1 : Nat) : Int) rfl rfl (by omega) (by omega)
 have hs : (swapF l 0 (l.length - 1)).length = l.length := swapF_len _ _ _
 have D1 := HDown (swapF l 0 (l.length - 1)) junk ep q T r (l.length - 1) (by omega) (by omega)
 have hd : (downN (l.length - 1) (l.length - 1) (swapF l 0 (l.length - 1)) 0).1.length = l.length := by rw [downN_len, hs]
 have hp : (popF l) = ((downN (l.length - 1) (l.length - 1) (swapF l 0 (l.length - 1)) 0).1.getD (l.length - 1) 0, (downN (l.length - 1) (l.length - 1) (swapF l 0 (l.length - 1)) 0).1.take (l.length - 1)) := rfl
 generalize hm : downN (l.length - 1) (l.length - 1) (swapF l 0 (l.length - 1)) 0 = mm at *
 obtain ⟨m, fi⟩ := mm
 dsimp only at *
 obtain ⟨ls, x, hx⟩ : ∃ ls x, m = ls ++ [x] := ⟨m.dropLast, m.getLast (by intro h; rw [h] at hd; simp at hd; omega), (List.dropLast_concat_getLast _).symm⟩
 have hls : ls.length = l.length - 1 := by rw [hx, List.length_append, List.length_singleton] at hd; omega
 have hp1 : popF l = (x, ls) := by
  rw [hp, hx, ← hls]; simp [List.getD]
 have P1 := HPopM ls junk x ep q T r (by omega)
 rw [hp1]
 rw [hx] at D1
 have key : bodyV E (om E) 184 (V.upL 1 [.iface 240 (.pref 0 1 0 0)]) ([] :: hpB l junk ep q T :: r) = some (.iface 3 (ii x), [] :: hpB ls (x :: junk) ep false T :: r) := by
  apply bo_184
  simp (disch := omega) [if_pos, if_neg, iteK_pos, iteK_neg, Tryz.f184, mLen, mSwap, mPop, upIf_f1, cut_pre, HLen, e1, B1, D1, P1]
 rw [key]
 simp
theorem HPush (l junk : List Int) (x : Int) (ep : Nat) (T : List Blk) (r : Heap) (hl : l.length < 1099511627776) : callV E (om E) 187 [.iface 240 (.pref 0 1 0 0), .iface 3 (ii x)] (hpB l junk ep false T :: r) = some (.tuple [], hpB (pushF l x) [] (ep + 1) false T :: r) := by
 rw [call_187]
 have P1 := HPushM l junk x ep T r (by omega)
 have U1 := HUp (l ++ [x]) [] (ep + 1) false T r l.length (by simp) (by simp; omega)
 have key : bodyV E (om E) 187 (V.upL 1 [.iface 240 (.pref 0 1 0 0), .iface 3 (ii x)]) ([] :: hpB l junk ep false T :: r) = some (.tuple [], [] :: hpB (pushF l x) [] (ep + 1) false T :: r) := by
  apply bo_187
  have hv : V.scon (V.canonL (cutCells (cat eI (l ++ [x])) 0 (l.length + 1) 1)) 0 (l.length + 1) false = lst eI (l ++ [x]) := res_lst eI (by simp) rfl
  simp (disch := omega) [if_pos, if_neg, iteK_pos, iteK_neg, Tryz.f187, mLen, mPush, upIf_f1, cut_pre, HLen, P1, hv, U1, pushF]
 rw [key]
 simp
end Go.Proofs.YthiciofacaeddaaGreat.Fl
end
section
namespace Go.Proofs.YthiciofacaeddaaGreat.Fl
open Go Go.Sim
set_option maxRecDepth 100000
set_option maxHeartbeats 0
set_option linter.unusedSimpArgs false
set_option linter.unusedVariables false

theorem and_mask (n : Nat) (hl : n < 4294967296) : andI 64 n 4294967295 = n := by
 unfold andI
 rw [show (4294967295 : Int) = ((4294967295 : Nat) : Int) from rfl, BitVec.ofInt_natCast, BitVec.ofInt_natCast, BitVec.toNat_and, BitVec.toNat_ofNat, BitVec.toNat_ofNat, show 4294967295 % 2 ^ 64 = 2 ^ 32 - 1 from rfl, Nat.and_two_pow_sub_one_eq_mod]
 omega
theorem make_ints (B : List Blk) (r : Heap) (n : Nat) (hn : n ≤ 16384) : makeSliceV Tryz.prog (B :: r) 74 (ii n) (ii n) = some (.sref 0 B.length 0 n 0 (1, true), (B ++ [.row (cat eI (List.replicate n 0)) 0 1 true true]) :: r) := by
 unfold makeSliceV
 rw [show Tryz.prog.underlying 74 = some (.slice 3) by kernel_rfl]
 dsimp only
 rw [show zeroV Tryz.prog 3 = some (ii 0) by kernel_rfl, show bytesV Tryz.prog 3 = some 8 by kernel_rfl, show sizeV Tryz.prog 3 = some 1 by kernel_rfl]
 have hc : V.cells (ii 0) = eI.enc 0 := by simp
 have hr : rep (eI.enc 0) n = cat eI (List.replicate n 0) := rep_cat eI 0 n
 simp only [Option.bind_some, hc, newRow, Int.toNat_natCast, hr]
 rw [if_pos (by simp; omega)]
 simp [Heap.push, Heap.top, Heap.setTop]
theorem Mul64_one (lent) (n : Nat) (hl : n ≤ 16384) : pureV E (om E) 195 lent [.int .u64 1, .int .u64 n] = some (.tuple [.int .u64 0, .int .u64 n]) := by
 apply pu_195
 have h1 := and_mask n (by omega)
 have h2 : andI 64 1 4294967295 = 1 := by decide
 have h3 : (n : Int).fdiv 4294967296 = 0 := by rw [Int.fdiv_eq_ediv_of_nonneg _ (by omega)]; omega
 have h4 : andI 64 0 4294967295 = 0 := by decide
 simp (disch := omega) [if_pos, if_neg, iteK_pos, iteK_neg, Tryz.f195, h1, h2, h3, h4]
theorem Mul_one (lent) (n : Nat) (hl : n ≤ 16384) : pureV E (om E) 181 lent [.int .u64 1, .int .u64 n] = some (.tuple [.int .u64 0, .int .u64 n]) := by
 apply pu_181
 simp (disch := omega) [if_pos, if_neg, iteK_pos, iteK_neg, Tryz.f181, Mul64_one, hl]
abbrev repSlots (n k : Nat) : List V := [lst eI [-1], ii n, xx, xx, V.nilslice, V.int IntKind.u64 0, V.int IntKind.u64 n, V.sref 0 0 0 n 0 (1, true),
    ii k, ii n, V.bool (decide ((n : Int) < 0)), xx, V.tuple [V.int IntKind.u64 0, V.int IntKind.u64 n],
    lst eI [-1], V.int IntKind.i64 1, V.int IntKind.u64 1, ii n, V.int IntKind.u64 n,
    V.tuple [V.int IntKind.u64 0, V.int IntKind.u64 n], V.int IntKind.u64 0, V.int IntKind.u64 n,
    V.int IntKind.u64 0, V.bool false, V.bool false, V.int IntKind.u64 n,
    V.bool (decide (9223372036854775807 < (n : Int))), V.bool (decide (9223372036854775807 < (n : Int))), xx,
    V.int IntKind.u64 n, ii n, V.sref 0 0 0 n 0 (1, true), V.sref 0 0 0 n 0 (1, true), lst eI [-1],
    V.int IntKind.i64 1] ++ pois 14
def repL (n k : Nat) : List Int := List.replicate k (-1) ++ List.replicate (n - k) 0
theorem repL_len {n k : Nat} (h : k ≤ n) : (repL n k).length = n := by simp [repL]; omega
theorem repL_step {n k c : Nat} (h : k ≤ n) (hc : c = min k (n - k)) : (repL n k).take k ++ ((repL n k).take c ++ (repL n k).drop (k + c)) = repL n (k + c) := by
 have hck : c ≤ k := by omega
 have e1 : (repL n k).take k = List.replicate k (-1) := by rw [repL, List.take_append_of_le_length (by simp), List.take_of_length_le (by simp)]
 have e2 : (repL n k).take c = List.replicate c (-1) := by rw [repL, List.take_append_of_le_length (by simpa using hck)]; simp; omega
 have e3 : (repL n k).drop (k + c) = List.replicate (n - (k + c)) 0 := by
  rw [repL, List.drop_append, List.drop_of_length_le (by simp)]; simp; omega
 rw [e1, e2, e3, repL, ← List.replicate_append_replicate, List.append_assoc]
theorem Repeat_body (n : Nat) (hn : 0 < n) (hl : n ≤ 16384) : bodyV E (om E) 158 [lst eI [-1], ii n] [[]] = some (.sref 0 0 0 n 0 (1, true), [[.row (cat eI (List.replicate n (-1))) 0 1 true true]]) := by
 apply bo_158
 simp (disch := omega) [if_pos, if_neg, iteK_pos, iteK_neg, Tryz.f158, Mul_one, hl, make_ints]
 refine loop_use (dyn := [9]) (fun (k : Nat) => repSlots n k) (fun k => [[.row (cat eI (repL n k)) 0 1 true true]]) (fun k => 0 < k ∧ k ≤ n) (fun k => n - k) hint_158_0 (by kernel_rfl) ?_ 1 ⟨by omega, by omega⟩ (by
  rw [← cat_append]
  simp [repSlots, repL])
 rintro k ⟨h0, hk⟩ IH
 rw [lpB_eq]
 by_cases hkn : k < n
 ·have hlen := repL_len hk
  simp (disch := omega) [if_pos, if_neg, iteK_pos, iteK_neg, hkn, hlen]
  rw [iteK_pos (by kernel_rfl)]
  simp (disch := omega) [if_pos, if_neg, iteK_pos, iteK_neg, hkn, hlen]
  rw [← cat_append, ← cat_append, repL_step hk rfl]
  refine IH (k + min k (n - k)) _ _ (by omega) (by omega) ?_
  simp [repSlots]
 ·obtain rfl : k = n := by omega
  have e : repL k k = List.replicate k (-1) := by simp [repL]
  simp (disch := omega) [if_pos, if_neg, iteK_pos, iteK_neg, e]
theorem Repeat_at {s : V} {n : Nat} {B : List Blk} {r : Heap} (hv : viewArgs (B :: r) [s, ii n] = some [lst eI [-1], ii n]) (hn : 0 < n) (hl : n ≤ 16384) :
  callV E (om E) 158 [s, ii n] (B :: r) = some (.sref 0 B.length 0 n 0 (1, true), (B ++ [.row (cat eI (List.replicate n (-1))) 0 1 true true]) :: r) := by
 rw [call_158, hv]
 simp (disch := omega) [if_pos, if_neg, iteK_pos, iteK_neg, Repeat_body n hn hl]
end Go.Proofs.YthiciofacaeddaaGreat.Fl
end
section
namespace Go.Proofs.YthiciofacaeddaaGreat.Fl
open Go Go.Sim
set_option linter.unusedSimpArgs false
set_option linter.unusedVariables false

theorem pickJ_lt {n : Nat} {l : List Int} {i : Nat} (h : 2 * i + 1 < n) : pickJ n l i < n := by
 unfold pickJ; split <;> omega
theorem downN_perm (n : Nat) : ∀ f (l : List Int) i, n ≤ l.length → i ≤ n → (downN n f l i).1.Perm l
 | 0, l, i, _, _ => List.Perm.refl _
 | f + 1, l, i, hn, hi => by
  rw [downN]; split
  ·exact List.Perm.refl _
  ·rename_i hc
   have hp := pickJ_lt (l := l) (show 2 * i + 1 < n by omega)
   split
   ·exact (downN_perm n f _ _ (by rw [swapF_len]; exact hn) (by omega)).trans (swapF_perm l _ _ (by omega) (by omega))
   ·exact List.Perm.refl _
theorem upN_perm : ∀ f (l : List Int) j, j < l.length → (upN f l j).Perm l
 | 0, l, j, _ => List.Perm.refl _
 | f + 1, l, j, hj => by
  rw [upN]; split
  ·exact List.Perm.refl _
  ·split
   ·exact (upN_perm f _ _ (by rw [swapF_len]; omega)).trans (swapF_perm l _ _ (by omega) (by omega))
   ·exact List.Perm.refl _
theorem pushF_perm (l : List Int) (x : Int) : (pushF l x).Perm (x :: l) := by
 unfold pushF
 exact (upN_perm _ _ _ (by simp)).trans (List.perm_append_singleton x l)
theorem popF_perm {l : List Int} (h : 0 < l.length) : ((popF l).1 :: (popF l).2).Perm l := by
 have h1 := (downN_perm (l.length - 1) (l.length - 1) (swapF l 0 (l.length - 1)) 0 (by rw [swapF_len]; omega) (by omega)).trans (swapF_perm l 0 (l.length - 1) h (by omega))
 have hl : (downN (l.length - 1) (l.length - 1) (swapF l 0 (l.length - 1)) 0).1.length = l.length := by rw [downN_len, swapF_len]
 unfold popF
 dsimp only
 generalize (downN (l.length - 1) (l.length - 1) (swapF l 0 (l.length - 1)) 0).1 = m at *
 rw [getD_lt (by omega)]
 have e : m = m.take (l.length - 1) ++ [m[l.length - 1]'(by omega)] := by
  have : m.drop (l.length - 1) = [m[l.length - 1]'(by omega)] := by
   rw [List.drop_eq_getElem_cons (by omega), List.drop_of_length_le (by omega)]
  rw [← this, List.take_append_drop]
 refine List.Perm.trans ?_ h1
 refine List.Perm.trans (List.perm_append_singleton _ _).symm ?_
 rw [← e]
theorem popF_len {l : List Int} (h : 0 < l.length) : (popF l).2.length + 1 = l.length := by
 have := (popF_perm h).length_eq
 simpa using this
theorem pushF_len (l : List Int) (x : Int) : (pushF l x).length = l.length + 1 := by
 have := (pushF_perm l x).length_eq
 simpa using this

def neg (ds : List Int) : Nat := ds.countP (· < 0)
theorem neg_set {v : Int} (hv : 0 ≤ v) : ∀ {ds : List Int} {n : Nat} (h : n < ds.length), ds[n] < 0 → neg (ds.set n v) + 1 = neg ds
 | [], n, h, _ => by simp at h
 | x :: ds, 0, h, hx => by
  simp only [List.getElem_cons_zero] at hx
  have hv' : ¬ v < 0 := by omega
  simp [neg, List.countP_cons, hx, hv']
 | x :: ds, n + 1, h, hx => by
  have ih := neg_set hv (ds := ds) (n := n) (by simpa using h) (by simpa using hx)
  simp only [neg] at ih
  simp only [neg, List.set_cons_succ, List.countP_cons]
  omega
theorem neg_lt : ∀ {ds : List Int} {n : Nat} (h : n < ds.length), 0 ≤ ds[n] → neg ds + 1 ≤ ds.length
 | [], n, h, _ => by simp at h
 | x :: ds, 0, h, hx => by
  simp only [List.getElem_cons_zero] at hx
  have hv' : ¬ x < 0 := by omega
  have := List.countP_le_length (p := fun v : Int => decide (v < 0)) (l := ds)
  simp only [neg, List.countP_cons, hv', decide_false, List.length_cons]
  simp; omega
 | x :: ds, n + 1, h, hx => by
  have ih := neg_lt (ds := ds) (n := n) (by simpa using h) (by simpa using hx)
  simp only [neg] at ih
  simp only [neg, List.countP_cons, List.length_cons]
  split <;> omega
structure HM where
 w : List Int
 junk : List Int
 ep : Nat
 q : Bool
def HM.pop (m : HM) : HM := ⟨(popF m.w).2, (popF m.w).1 :: m.junk, m.ep, false⟩
def HM.push (m : HM) (x : Int) : HM := ⟨pushF m.w x, [], m.ep + 1, false⟩
abbrev HM.blk (m : HM) (T : List Blk) : List Blk := hpB m.w m.junk m.ep m.q T
def nextL (d2 : Int) : List Nat → HM → List Int → HM × List Int × Bool
 | [], m, ds => (m, ds, true)
 | n :: r, m, ds => if ds.getD n 0 < 0 then nextL d2 r (m.push n) (ds.set n d2) else if ds.getD n 0 = d2 then nextL d2 r m ds else (m, ds, false)
structure WR where
 need : Int
 at_ : Int
 e : Nat
 ds : List Int
 m : HM
 x : List Blk
noncomputable def infoBlk (op : Nat) : Blk := .row [.str (rowOf op).word, ii (rowOf op).width, .int .u32 (rowOf op).most, ii (takesF op), ii (givesF op), .int .u8 (kindF op)] 0 6 true true
noncomputable def walkF (code : List Instr) (s : List PR × List Nat) (ts : List (List Nat)) : Nat → HM → List Int → Int → WR
 | 0, m, ds, need => ⟨need, 0, 0, ds, m, []⟩
 | f + 1, m, ds, need =>
  if m.w.length = 0 then ⟨need, 0, 0, ds, m, []⟩
  else if ds.getD (popF m.w).1.toNat 0 < takesF (code.getD (popF m.w).1.toNat default).op then ⟨0, (popF m.w).1, 140, ds, m.pop, [infoBlk (code.getD (popF m.w).1.toNat default).op]⟩
  else if 64 < ds.getD (popF m.w).1.toNat 0 - takesF (code.getD (popF m.w).1.toNat default).op + givesF (code.getD (popF m.w).1.toNat default).op then ⟨0, (popF m.w).1, 141, ds, m.pop, [infoBlk (code.getD (popF m.w).1.toNat default).op]⟩
  else if kindF (code.getD (popF m.w).1.toNat default).op = 7 ∧ ds.getD (popF m.w).1.toNat 0 ≠ 1 then ⟨0, (popF m.w).1, 143, ds, m.pop, [infoBlk (code.getD (popF m.w).1.toNat default).op]⟩
  else if (nextL (ds.getD (popF m.w).1.toNat 0 - takesF (code.getD (popF m.w).1.toNat default).op + givesF (code.getD (popF m.w).1.toNat default).op) (nextF code s ts (popF m.w).1.toNat) m.pop ds).2.2 then
   walkF code s ts f (nextL (ds.getD (popF m.w).1.toNat 0 - takesF (code.getD (popF m.w).1.toNat default).op + givesF (code.getD (popF m.w).1.toNat default).op) (nextF code s ts (popF m.w).1.toNat) m.pop ds).1
    (nextL (ds.getD (popF m.w).1.toNat 0 - takesF (code.getD (popF m.w).1.toNat default).op + givesF (code.getD (popF m.w).1.toNat default).op) (nextF code s ts (popF m.w).1.toNat) m.pop ds).2.1
    (max (max need (ds.getD (popF m.w).1.toNat 0)) (ds.getD (popF m.w).1.toNat 0 - takesF (code.getD (popF m.w).1.toNat default).op + givesF (code.getD (popF m.w).1.toNat default).op))
  else ⟨0, (popF m.w).1, 142, (nextL (ds.getD (popF m.w).1.toNat 0 - takesF (code.getD (popF m.w).1.toNat default).op + givesF (code.getD (popF m.w).1.toNat default).op) (nextF code s ts (popF m.w).1.toNat) m.pop ds).2.1, (nextL (ds.getD (popF m.w).1.toNat 0 - takesF (code.getD (popF m.w).1.toNat default).op + givesF (code.getD (popF m.w).1.toNat default).op) (nextF code s ts (popF m.w).1.toNat) m.pop ds).1, [infoBlk (code.getD (popF m.w).1.toNat default).op]⟩
structure WOk (n : Nat) (w ds : List Int) : Prop where
 len : ds.length = n
 low : ∀ v ∈ ds, -1 ≤ v ∧ v ≤ 64
 ins : ∀ x ∈ w, 0 ≤ x ∧ x < n
 few : w.length + neg ds ≤ n
theorem mem_set_or {ds : List Int} {n : Nat} {v x : Int} (h : x ∈ ds.set n v) : x ∈ ds ∨ x = v := List.mem_or_eq_of_mem_set h
theorem nextOk_push {n : Nat} {w ds : List Int} (h : WOk n w ds) {x : Nat} (hx : x < n) {d2 : Int} (h0 : 0 ≤ d2) (h64 : d2 ≤ 64) (hn : ds.getD x 0 < 0) : WOk n (pushF w x) (ds.set x d2) := by
 have hxl : x < ds.length := by rw [h.len]; exact hx
 rw [getD_lt hxl] at hn
 have hneg := neg_set h0 hxl hn
 refine ⟨by rw [List.length_set]; exact h.len, fun v hv => ?_, fun y hy => ?_, ?_⟩
 ·rcases mem_set_or hv with h1 | h1
  ·exact h.low v h1
  ·subst h1; omega
 ·have := (pushF_perm w x).mem_iff.mp hy
  rcases List.mem_cons.mp this with h1 | h1
  ·subst h1; omega
  ·exact h.ins y h1
 ·have := h.few
  rw [pushF_len]; omega
theorem popOk {n : Nat} {w ds : List Int} (h : WOk n w ds) (h0 : 0 < w.length) : 0 ≤ (popF w).1 ∧ (popF w).1 < n ∧ WOk n (popF w).2 ds := by
 have hp := popF_perm h0
 have h1 := h.ins (popF w).1 (hp.mem_iff.mp (by simp))
 refine ⟨h1.1, h1.2, h.len, h.low, fun x hx => h.ins x (hp.mem_iff.mp (List.mem_cons_of_mem _ hx)), ?_⟩
 have := popF_len h0
 have := h.few
 omega
theorem nextL_meas {d2 : Int} (h0 : 0 ≤ d2) (h64 : d2 ≤ 64) {n : Nat} : ∀ {l : List Nat} {m : HM} {ds : List Int}, (∀ x ∈ l, x < n) → WOk n m.w ds → WOk n (nextL d2 l m ds).1.w (nextL d2 l m ds).2.1 ∧ (nextL d2 l m ds).1.w.length + neg (nextL d2 l m ds).2.1 = m.w.length + neg ds
 | [], m, ds, _, h => ⟨h, rfl⟩
 | x :: l, m, ds, hl, h => by
  have hx : x < n := hl x (by simp)
  rw [nextL]
  split
  ·rename_i hc
   have h1 := nextL_meas h0 h64 (l := l) (m := m.push x) (ds := ds.set x d2) (fun y hy => hl y (List.mem_cons_of_mem _ hy)) (nextOk_push h hx h0 h64 hc)
   refine ⟨h1.1, ?_⟩
   have hxl : x < ds.length := by rw [h.len]; exact hx
   rw [getD_lt hxl] at hc
   have := neg_set h0 hxl hc
   rw [h1.2]
   show (pushF m.w x).length + _ = _
   rw [pushF_len]; omega
  ·split
   ·exact nextL_meas h0 h64 (fun y hy => hl y (List.mem_cons_of_mem _ hy)) h
   ·exact ⟨h, rfl⟩
theorem nextF_len (code : List Instr) (s : List PR × List Nat) (ts : List (List Nat)) (hj : ∀ l ∈ ts, l.length ≤ 35184372087808) (i : Nat) : (nextF code s ts i).length ≤ 35184372087808 := by
 unfold nextF
 dsimp only
 split
 ·simp
 ·split
  ·split <;> simp
  ·split
   ·simp
   ·split
    ·by_cases h : s.2.getD i 0 < ts.length
     ·rw [getD_lt h]; exact hj _ (List.getElem_mem h)
     ·rw [getD_ge (by omega)]; simp
    ·simp
theorem few_takes : (List.range 60).all (fun op => decide (takesF op ≤ 2 ∧ givesF op ≤ 2)) = true := by decide
theorem takes_le (op : Nat) : takesF op ≤ 2 ∧ givesF op ≤ 2 := by
 by_cases h : op < 60
 ·simpa using List.all_eq_true.mp few_takes op (List.mem_range.mpr h)
 ·have : rowG op = (0, 0, 0, 0, 0) := getD_ge (by simp [rowTable]; omega)
  simp [takesF, givesF, this]
end Go.Proofs.YthiciofacaeddaaGreat.Fl
end
section
namespace Go.Proofs.YthiciofacaeddaaGreat.Fl
open Go Go.Sim
set_option maxRecDepth 100000
set_option maxHeartbeats 0
set_option linter.unusedSimpArgs false
set_option linter.unusedVariables false

abbrev dpB (b0 b1 b2 b3 b4 b5 : Blk) (ds : List Int) (T : List Blk) : List Blk := b0 :: b1 :: b2 :: b3 :: b4 :: b5 :: .row (cat eI ds) 0 1 true true :: T
abbrev walkSlots (G : V) (begin n : Nat) (need at_ : Int) : List V := [G, ii begin, V.sref 1 6 0 n 0 (1, true), xx, xx, xx, ii 0,
    ii 0, ii 0, V.pref 0 1 0 0, ii need, ii at_, ii 0, xx, xx, xx, xx, xx, ii begin, V.sref 0 0 0 1 0 (1, true), V.pref 0 1 0 0,
    V.sref 1 6 0 n 0 (1, true), ii begin, V.pref 1 6 begin 0] ++ pois 85
structure WS where
 m : HM
 ds : List Int
 need : Int
 at_ : Int
 f : Nat
theorem Walk_body (code jumps s ts) (hl : code.length ≤ 16384) (h2 : s.2.length = code.length) (ho : ∀ p ∈ s.2, p < s.1.length) (ht : ts.length = s.1.length) (hj : ∀ l ∈ ts, l.length ≤ 35184372087808)
  (hnx : ∀ i, i < code.length → ∀ x ∈ nextF code s ts i, x < code.length) (begin : Nat) (hb : begin < code.length) (ds : List Int) (hds : ds.length = code.length) (hlow : ∀ v ∈ ds, -1 ≤ v ∧ v ≤ 64) (b0 b1 b2 b3 b4 b5 T r) (W : WR)
  (hW : walkF code s ts code.length ⟨[(begin : Int)], [], 0, true⟩ (ds.set begin 0) 0 = W) :
  bodyV E (om E) 160 [graphV code jumps s ts, ii begin, .sref 1 6 0 code.length 0 (1, true)] ([] :: dpB b0 b1 b2 b3 b4 b5 ds T :: r) = some (.tuple [ii W.need, ii W.at_, ii W.e], W.m.blk W.x :: dpB b0 b1 b2 b3 b4 b5 W.ds T :: r) := by
 have hN := fun i hi => GNext code jumps s ts i hi hl h2 ho ht hj
 have hI := GInfo code jumps s ts
 generalize hG : graphV code jumps s ts = G at *
 have hGf : V.flat G = true := by rw [← hG]; simp
 have hGc : V.canon G = G := by rw [← hG]; simp [canon_lsts]
 have hGs : ∀ n H, V.settle n H G = G := fun n H => settle_flat n H G hGf
 have hGu : ∀ n, V.up n G = G := fun n => up_flat n G hGf
 apply bo_160
 have e0 : ((cat eI ds).set begin (ii 0)) = cat eI (ds.set begin 0) := cat_eI_set ds begin 0
 simp (disch := omega) [if_pos, if_neg, iteK_pos, iteK_neg, Tryz.f160, hb, hds]
 refine loop_use (dyn := [6]) (fun (a : WS) => walkSlots G begin code.length a.need a.at_) (fun a => a.m.blk [] :: dpB b0 b1 b2 b3 b4 b5 a.ds T :: r)
  (fun a => WOk code.length a.m.w a.ds ∧ 0 ≤ a.need ∧ a.need ≤ 64 ∧ a.m.w.length + neg a.ds ≤ a.f ∧ walkF code s ts a.f a.m a.ds a.need = W) (fun a => a.f) hint_160_0 (by kernel_rfl) ?_ ⟨⟨[(begin : Int)], [], 0, true⟩, ds.set begin 0, 0, 0, code.length⟩ ?_ ?_
 rotate_left
 ·have hbl : begin < (ds.set begin 0).length := by rw [List.length_set, hds]; exact hb
  have hng := neg_lt hbl (by simp)
  rw [List.length_set, hds] at hng
  refine ⟨⟨by rw [List.length_set, hds], fun v hv => ?_, fun x hx => ?_, ?_⟩, by simp, by simp, ?_, hW⟩
  ·rcases mem_set_or hv with h | h
   ·exact hlow v h
   ·subst h; simp
  ·simp at hx; subst hx; omega
  ·show 1 + neg (ds.set begin 0) ≤ code.length; omega
  ·show 1 + neg (ds.set begin 0) ≤ code.length; omega
 ·simp [walkSlots, HM.blk, hpB, dpB, e0, cat_cons]
 rintro ⟨m, ds, need, at_, f⟩ ⟨hok, hn0, hn64, hf, hR⟩ IH
 rw [lpB_eq]
 dsimp only at hok hn0 hn64 hf hR ⊢
 have hwl : m.w.length ≤ code.length := by have := hok.few; omega
 by_cases c0 : m.w.length = 0
 ·have hR' : W = ⟨need, 0, 0, ds, m, []⟩ := by
   rw [← hR]; cases f with
   | zero => rfl
   | succ f => rw [walkF, if_pos c0]
  subst hR'
  have hw : m.w = [] := List.length_eq_zero_iff.mp c0
  have hL0 : ∀ lent, pureV E (om E) 183 lent [.scon [] 0 0 false] = some (ii 0) := fun lent => HLen lent []
  have hc0 : cutCells (cat eI m.junk) 0 0 1 = [] := by simp [cutCells]
  simp (disch := omega) [if_pos, if_neg, iteK_pos, iteK_neg, hw, hL0, hc0, upIf_f1, hGs]
 ·obtain ⟨p0, p1, hok'⟩ := popOk hok (by omega)
  have hP := fun rr => HPop m.w m.junk m.ep m.q [] rr (by omega) (by omega)
  obtain ⟨f, rfl⟩ : ∃ f', f = f' + 1 := Nat.exists_eq_succ_of_ne_zero (by omega)
  have hpl := popF_len (l := m.w) (by omega)
  rw [walkF, if_neg c0] at hR
  obtain ⟨i, hi⟩ := Int.eq_ofNat_of_zero_le p0
  rw [hi] at p1 hP hR
  have hin : i < code.length := by omega
  have hid : i < ds.length := by rw [hok.len]; exact hin
  rw [Int.toNat_natCast, getD_lt hin, getD_lt hid] at hR
  have hlo := hok.low _ (List.getElem_mem hid)
  obtain ⟨k1, k2⟩ := takes_le code[i].op
  have hIi := hI i hin
  have hNi := hN i hin
  have hxi := hnx i hin
  have hnl := nextF_len code s ts hj i
  have hm' : hpB (popF m.w).2 ((i : Int) :: m.junk) m.ep false [] = m.pop.blk [] := by simp only [HM.blk, HM.pop, hi]
  have hib : ∀ tk gv kd : Nat, takesF code[i].op = tk → givesF code[i].op = gv → kindF code[i].op = kd → infoBlk code[i].op = .row [.str (rowOf code[i].op).word, ii (rowOf code[i].op).width, .int .u32 (rowOf code[i].op).most, ii tk, ii gv, .int .u8 kd] 0 6 true true := by
   rintro _ _ _ rfl rfl rfl; rfl
  generalize htk : takesF code[i].op = tk at *
  generalize hgv : givesF code[i].op = gv at *
  generalize hkd : kindF code[i].op = kd at *
  generalize hdi : ds[i] = d at *
  have hib := hib tk gv kd rfl rfl rfl
  have hd2 : (0 : Int) ≤ d - tk + gv ∨ d < tk := by omega
  simp (disch := omega) [if_pos, if_neg, iteK_pos, iteK_neg, c0, HLen, cut_pre, upIf_f1, hGs, hGf, hGu, hGc, hP, hIi, takes_eq, gives_eq, kind_eq, htk, hgv, hkd, eI_get, hid, hdi]
  rw [iteK_pos (by kernel_rfl)]
  by_cases c1 : d < tk
  ·rw [if_pos c1] at hR
   subst hR
   simp (disch := omega) [if_pos, if_neg, iteK_pos, iteK_neg, takes_eq, gives_eq, kind_eq, htk, hgv, hkd, c1, hGs, HM.blk, HM.pop, hi, hib]
  ·rw [if_neg c1] at hR
   by_cases c2 : 64 < d - tk + gv
   ·rw [if_pos c2] at hR
    subst hR
    simp (disch := omega) [if_pos, if_neg, iteK_pos, iteK_neg, takes_eq, gives_eq, kind_eq, htk, hgv, hkd, c1, c2, hGs, HM.blk, HM.pop, hi, hib]
   ·rw [if_neg c2] at hR
    have hd0 : 0 ≤ d - tk + gv := by omega
    by_cases c3 : kd = 7 ∧ d ≠ 1
    ·rw [if_pos c3] at hR
     obtain ⟨rfl, c4⟩ := c3
     subst hR
     simp (disch := omega) [if_pos, if_neg, iteK_pos, iteK_neg, takes_eq, gives_eq, kind_eq, htk, hgv, hkd, c1, c2, c4, hGs, HM.blk, HM.pop, hi, hib]
    ·rw [if_neg c3] at hR
     have hmx : (if (if need < d then d else need) < d - tk + gv then d - tk + gv else if need < d then d else need) = max (max need d) (d - tk + gv) := by
      simp only [Int.max_def]
      split <;> split <;> split <;> omega
     by_cases c5 : kd = 7
     ·subst c5
      have c4 : d = 1 := Classical.byContradiction fun h => c3 ⟨rfl, h⟩
      have hx0 : nextF code s ts i = [] := by unfold nextF; rw [getD_lt hin]; simp [hkd]
      rw [hx0] at hR hNi
      rw [nextL, if_pos rfl] at hR
      dsimp only at hR
      rw [lst_nil] at hNi
      subst c4
      simp (disch := omega) [if_pos, if_neg, iteK_pos, iteK_neg, takes_eq, gives_eq, kind_eq, htk, hgv, hkd, c1, c2, hGs, hGf, hGu, hGc, hNi, hmx]
      apply loop_next (dyn := []) hint_160_1 (by kernel_rfl)
      simp (disch := omega) [if_pos, if_neg, iteK_pos, iteK_neg]
      rw [lpB_eq]
      simp (disch := omega) [if_pos, if_neg, iteK_pos, iteK_neg, hGs]
      refine IH ⟨m.pop, ds, max (max need 1) (1 - tk + gv), i, f⟩ _ _ ⟨hok', by dsimp only; omega, by dsimp only; omega, ?_, hR⟩ (by dsimp only; omega) ?_
      ·show (popF m.w).2.length + neg ds ≤ f; omega
      ·simp [walkSlots, HM.blk, HM.pop, hi]
     ·simp (disch := omega) [if_pos, if_neg, iteK_pos, iteK_neg, takes_eq, gives_eq, kind_eq, htk, hgv, hkd, c1, c2, c5, hGs, hGf, hGu, hGc, hNi, hmx]
      refine loop_chg (dyn := []) (fun a : Nat × HM × List Int => [(71, ii a.1)]) (fun a => [(0, 0, .row (cat eI (a.2.1.w ++ a.2.1.junk)) a.2.1.ep 1 true true), (0, 1, .row [.sref 0 0 0 a.2.1.w.length a.2.1.ep (1, a.2.1.q)] 0 1 false false), (1, 6, .row (cat eI a.2.2) 0 1 true true)]) (fun _ => [])
       (fun a => a.1 ≤ (nextF code s ts i).length ∧ WOk code.length a.2.1.w a.2.2 ∧ a.2.1.q = false ∧ nextL (d - tk + gv) ((nextF code s ts i).drop a.1) a.2.1 a.2.2 = nextL (d - tk + gv) (nextF code s ts i) m.pop ds)
       (fun a => (nextF code s ts i).length - a.1) hint_160_1 (by kernel_rfl) ?_ (0, m.pop, ds) ⟨by simp, hok', rfl, rfl⟩ (by simp [HM.pop, hi])
      rintro ⟨k, mk, dk⟩ ⟨q1, q2, q3, q4⟩ IH2
      rw [lpB_eq]
      dsimp only at q1 q2 q3 q4 ⊢
      by_cases g1 : k < (nextF code s ts i).length
      ·have hxk := hxi _ (List.getElem_mem g1)
       rw [List.drop_eq_getElem_cons g1, nextL] at q4
       generalize hx : (nextF code s ts i)[k] = x at *
       have hxd : x < dk.length := by rw [q2.len]; exact hxk
       have hdl := q2.len
       rw [getD_lt hxd] at q4
       by_cases g2 : dk[x] < 0
       ·rw [if_pos g2] at q4
        have hwk : mk.w.length < 1099511627776 := by have := q2.few; omega
        have P2 := fun T rr => HPush mk.w mk.junk x mk.ep T rr hwk
        have hnew := nextOk_push q2 hxk hd0 (show d - tk + gv ≤ 64 by omega) (show dk.getD x 0 < 0 by rw [getD_lt hxd]; exact g2)
        simp (disch := omega) [if_pos, if_neg, iteK_pos, iteK_neg, g1, g2, hx, eI_get, hxd, hGs, hGf, hGu, hGc, q3, P2]
        refine IH2 (k + 1, mk.push x, dk.set x (d - tk + gv)) _ _ ⟨by dsimp only; omega, hnew, rfl, q4⟩ (by dsimp only; omega) ?_
        simp [HM.push, cat_eI_set, hpB]
       ·rw [if_neg g2] at q4
        by_cases g3 : dk[x] = d - tk + gv
        ·rw [if_pos g3] at q4
         simp (disch := omega) [if_pos, if_neg, iteK_pos, iteK_neg, g1, g2, g3, hx, eI_get, hxd, hGs, hGf, hGu, hGc]
         refine IH2 (k + 1, mk, dk) _ _ ⟨by dsimp only; omega, q2, q3, q4⟩ (by dsimp only; omega) ?_
         simp
        ·rw [if_neg g3] at q4
         rw [← q4] at hR
         dsimp only at hR
         rw [if_neg (by simp)] at hR
         subst hR
         simp (disch := omega) [if_pos, if_neg, iteK_pos, iteK_neg, g1, g2, g3, hx, eI_get, hxd, hGs, hGf, hGu, hGc, hib, HM.blk]
      ·rw [List.drop_of_length_le (by omega), nextL] at q4
       rw [← q4, if_pos rfl] at hR
       dsimp only at hR
       have hms := nextL_meas (m := m.pop) hd0 (show d - tk + gv ≤ 64 by omega) hxi hok'
       rw [← q4] at hms
       dsimp only at hms
       simp (disch := omega) [if_pos, if_neg, iteK_pos, iteK_neg, g1, hGs, hGf, hGu, hGc]
       refine IH ⟨mk, dk, max (max need d) (d - tk + gv), i, f⟩ _ _ ⟨q2, by dsimp only; omega, by dsimp only; omega, ?_, hR⟩ (by dsimp only; omega) ?_
       ·show mk.w.length + neg dk ≤ f
        rw [hms.2]
        show (popF m.w).2.length + neg ds ≤ f; omega
       ·simp [walkSlots, HM.blk]
end Go.Proofs.YthiciofacaeddaaGreat.Fl
end
