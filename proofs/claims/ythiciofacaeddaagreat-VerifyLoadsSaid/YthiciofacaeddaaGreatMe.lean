/-
 The machine of values: from a given statement's form to it. What an argument reads as, by its contents; what a law's answer is to be.
 The machine of values: arguments that are structs, by their cells; lists that nobody reads.
 The machine of values: lists of structs as arguments, by their contents.
 The machine of values: functions that answer numbers of numbers, by what they were walked to answer.
 The machine of values: how long a list can be that an argument reads as.
 The machine of values: a function's answers at arguments that were reckoned before, for lists in memory too.
 The machine of values: memory of one's own, read in the caller's level.
-/
import Derived.Test.YthiciofacaeddaaGreatMd
import Derived.Deep.Slices
import Derived.Carry
import Derived.ChangeSame
import Derived.OpenShut
import Derived.SizedLaws
section
namespace Go.Sim
open Go Go.RowKit Go.ChangeShapes Go.WideShapes Go.Deep
set_option linter.unusedVariables false
set_option linter.unusedSimpArgs false

theorem calls_of_callV {E : Env} (hq : EqOk E) (hE : FnOk E (fun _ => true)) (hK : KnownOk E (fun _ => true)) (hKI : KnownIn E) {f : FuncId} {args : List V} {r : V} {h' : Heap}
  (he : callV E (om E) f args [[]] = some (r, h')) {ok : Nat → Prop} {w : World} {args' : Array Value} (hok : ∀ b, ok b → b < w.heap.size) (ha : VRelL ok w Bd.none_ args args'.toList) {R : Ending → World → Prop}
  (hR : ∀ ok' B' w' v, After (fun _ => true) ok Bd.none_ w 1 h' r ok' B' w' v → R (.returned v) w') : Calls E.P f args' w R := by
 obtain ⟨n, hn⟩ := Fs.fuel E (callV_fs E f args [[]]) he
 have h := call_sound (ev_sound hq hE hK hKI n) hE hK hn ok Bd.none_ w args'.toList R (HR.empty hok) ha hR
 rw [Array.toArray_toList] at h
 exact callsIn_wide.1 h

theorem law_calls {E : Env} (hq : EqOk E) (hE : FnOk E (fun _ => true)) (hK : KnownOk E (fun _ => true)) (hKI : KnownIn E) {f : FuncId} {args : List V}
  (hk : E.known f = none) (hm : E.mode f = .pure) (hf : V.flatL args = true) (hv : viewArgs [[]] args = some args) (he : pureV E (om E) f false args = some (.bool true)) {w : World} {args' : Array Value} (ha : VRelL (fun b => b < w.heap.size) w Bd.none_ args args'.toList) :
  Calls E.P f args' w fun e w' => e = .returned (.bool true) ∧ Below w.heap.size w w' := by
 have hc : callV E (om E) f args [[]] = some (.bool true, [[]]) := by
  rw [callV_pure hk hm, hv, hf]
  simp only [Option.bind_some, Bool.not_true, he, Option.map_some]
 refine calls_of_callV hq hE hK hKI hc (fun b hb => hb) ha fun ok' B' w' v hA => ?_
 have hval := hA.val
 simp only [VRel] at hval
 subst hval
 exact ⟨rfl, hA.ext.os, hA.ext.tape, hA.ext.output, hA.ext.size, fun k hk => hA.ext.same k hk fun d j => by simp [Bd.none_, Ent.blk]⟩

section
variable {H : Type} {enc : TypeId × Value → H} {P : Program} {W W' : World}

theorem slice_shape {P : Program} {W : World} {r : Reach} {base : Nat} {t e : TypeId} {v : Value} (ht : P.underlying t = some (.slice e)) (hv : Value.okWide P W r base t v) : v = .slice none 0 0 ∨ ∃ b off len cap, v = .slice (some ⟨b, off, none⟩) len cap ∧ len ≤ cap := by
 simp only [Value.okWide, ht, Cell.okWide] at hv
 unfold Cell.ok at hv
 simp only [ht] at hv
 split at hv
 all_goals rename_i heq
 all_goals first | contradiction | (simp at heq; done) | skip
 ·exact .inl rfl
 ·rename_i a len cap
  obtain ⟨b, off, spot⟩ := a
  have := hv.2.2.2.1
  simp only at this; subst this
  exact .inr ⟨b, off, len, cap, rfl, hv.1⟩

theorem cells_bytes {w : World} {ok : Nat → Prop} {b : Nat} : ∀ (l : List UInt8) (i : Nat), (∀ j x, l[j]? = some x → w.cell? ⟨b, i + j, none⟩ = some (.int .u8 x.toNat)) → CRel ok w b i (cat eU8 l)
 | [], i, h => by simp [CRel]
 | x :: l, i, h => by
  have h0 : cat eU8 (x :: l) = .int .u8 x.toNat :: cat eU8 l := rfl
  rw [h0]
  simp only [CRel]
  refine ⟨⟨_, h 0 x rfl, rfl, by simp [VRel]⟩, cells_bytes l (i + 1) fun j y hj => ?_⟩
  have := h (j + 1) y (by simpa using hj)
  rw [show i + 1 + j = i + (j + 1) by omega]; exact this

theorem bytes_in {t e : TypeId} {b0 : Nat} {v : Value} {d : DataW H} {ps : List MemPlace} (ht : P.underlying t = some (.slice e)) (he : P.underlying e = some (.int .u8)) (hce : P.cellsOf e = 1)
  (hv : Value.okWide P W .any b0 t v) (hT : DataW.Trod enc P W 0 (fun _ => true) true t v d ps) : ∃ l : List UInt8, VRel (fun b => b < W.heap.size) W Bd.none_ (bs l) v ∧ l.length ≤ maxLen ∧
   ((d = .nil ∧ l = []) ∨ ∃ es sp, d = .slice es sp ∧ es.length = l.length) := by
 obtain ⟨fuel, hf⟩ := hT
 rcases slice_shape ht hv with rfl | ⟨b, off, len, cap, rfl, hle⟩
 ·rcases open_slice1 ht hce hf with ⟨h1, h2⟩ | ⟨a, len, cap, m, n, V, D, Pl, h1, _⟩
  ·simp only [Prod.mk.injEq] at h2
   exact ⟨[], by simp [VRel, lst], by simp, .inl ⟨h2.1, rfl⟩⟩
  ·simp [Value.cells] at h1
 ·rcases open_slice1 ht hce hf with ⟨h1, h2⟩ | ⟨a, len', cap', m, n, V, D, Pl, h1, _, h2, h3, h4, h5, h6⟩
  ·simp [Value.cells] at h1
  ·simp [Value.cells] at h1
   obtain ⟨rfl, rfl, rfl⟩ := h1
   simp only [if_true] at h4
   subst h4
   have hb : ∀ i, i < m → ∃ x : UInt8, V i = .int .u8 x.toNat := by
    intro i hi
    obtain ⟨n', hn', _, hw⟩ := DataW.trod_int he (h6 i hi).2
    simp only [List.cons.injEq, and_true] at hn'
    refine ⟨UInt8.ofNat n'.toNat, ?_⟩
    simp [Lit.wf, IntKind.min, IntKind.max] at hw
    rw [hn']
    congr 1
    simp only [UInt8.toNat_ofNat']
    omega
   have hx : ∃ f : Nat → UInt8, ∀ i, i < m → V i = .int .u8 (f i).toNat := by
    refine ⟨fun i => if h : i < m then (hb i h).choose else 0, fun i hi => ?_⟩
    simp only [hi, dif_pos]
    exact (hb i hi).choose_spec
   obtain ⟨f, hf'⟩ := hx
   have hcell : ∀ i, i < m → W.cell? ⟨b, off + i, none⟩ = some (.int .u8 (f i).toNat) := by
    intro i hi
    have := (h6 i hi).1
    rw [hf' i hi] at this
    rw [← this, Addr.add]
    split <;> simp_all
   refine ⟨(List.range len).map f, ?_, by simp; omega, .inr ?_⟩
   ·have hlen : ((List.range len).map f).length = len := by simp
    simp only [lst, VRel, hlen]
    refine .inl ⟨b, off, m, off, rfl, h2, by simp, fun _ => rfl, fun hne => ?_, cells_bytes _ _ fun j x hj => ?_⟩
    ·have : 0 < len := by
      rcases Nat.eq_zero_or_pos len with h | h
      ·subst h; simp [cat] at hne
      ·exact h
     exact lt_of_cell (hcell 0 (by omega))
    ·have hj' : j < len := by
      have := (List.getElem?_eq_some_iff.1 hj).1; simpa using this
     rw [hcell j (by omega)]
     simp [List.getElem?_map, List.getElem?_range hj'] at hj
     rw [hj]
   ·simp only [Prod.mk.injEq] at h5
    exact ⟨_, _, h5.1, by simp⟩

theorem trodAll_below (hl : laidOutB P = true) (hb : Below W.heap.size W W') : ∀ {ts : List TypeId} {vs : List Value} {ds : List (DataW H)} {ps : List MemPlace},
  (∀ t ∈ ts, P.readableRec t = true ∧ t < P.types.size) → DataW.TrodAll enc P W 0 (fun _ => true) true ts vs ds ps → (∀ x ∈ ps, x.block < W.heap.size) → DataW.TrodAll enc P W' 0 (fun b => decide (b < W.heap.size)) true ts vs ds ps
 | [], [], [], ps, _, h, _ => h
 | t :: ts, v :: vs, d :: ds, ps, hr, h, hlt => by
  obtain ⟨p, q, h1, h2, rfl⟩ := h
  exact ⟨p, q, Below.trod hl (hr t (by simp)).1 (hr t (by simp)).2 h1 hb fun x hx => hlt x (by simp [hx]), trodAll_below hl hb (fun t ht => hr t (by simp [ht])) h2 fun x hx => hlt x (by simp [hx]), rfl⟩
 | [], _ :: _, _, _, _, h, _ => by simp [DataW.TrodAll] at h
 | [], [], _ :: _, _, _, h, _ => by simp [DataW.TrodAll] at h
 | _ :: _, [], _, _, _, h, _ => by simp [DataW.TrodAll] at h
 | _ :: _, _ :: _, [], _, _, h, _ => by simp [DataW.TrodAll] at h

theorem law_post {f : Func} {s : ChangeSpec} {apart fresh handsOn : Bool} {args : Array Value} {ds gs : List (DataW H)} {before : List MemPlace} {tb : TypeId}
  (hl : laidOutB P = true) (hrd : ∀ t ∈ f.params.toList, P.readableRec t = true ∧ t < P.types.size) (htb : P.underlying tb = some .bool) (hres : f.resultTypes = #[tb]) (hvars : s.vars = [])
  (hW : DataW.Whole enc P f.params.toList s.vars apart W args.toList ds gs before) (hfn : s.fn H (ds ++ gs) = { results := [.lit (.bool true)], args := ds }) (hb : Below W.heap.size W W') :
  s.post enc P f apart fresh handsOn false W args (.bool true) W' := by
 have hlt := hW.lt
 have hW' := hW
 obtain ⟨p, q, hA, hV, rfl, _, _⟩ := hW
 rw [hvars] at hV
 obtain ⟨rfl, rfl⟩ := trodVars_none hV
 refine ⟨ds, [], _, [], p, [], hW', ?_, ?_, ?_, Below.frame hb _, fun h => by cases h⟩
 ·rw [hfn, hres]
  exact trodAll_cons_mk (shut_bool htb _) trodAll_mk0
 ·rw [hfn]
  exact trodAll_below hl hb hrd hA fun x hx => hlt x (by simp [hx])
 ·rw [hfn, hvars]; exact rfl
end
end Go.Sim
end
section
namespace Go.Sim
open Go Go.RowKit Go.ChangeShapes Go.WideShapes Go.Deep
set_option linter.unusedVariables false
set_option linter.unusedSimpArgs false

section
variable {P : Program} {W : World} {r : Reach} {b0 : Nat}

end
end Go.Sim
end
section
namespace Go.Sim
open Go Go.RowKit Go.ChangeShapes Go.WideShapes Go.Deep
set_option linter.unusedVariables false
set_option linter.unusedSimpArgs false

section
variable {H : Type} {enc : TypeId × Value → H} {P : Program} {W : World}
end
end Go.Sim
end
section
namespace Go.Sim
open Go Go.RowKit
set_option linter.unusedVariables false
set_option linter.unusedSimpArgs false

section
variable {ok : Nat → Prop} {w w' : World} {B : Bd} {p : Array Oper → Bool} {h : Heap} {P : Program}
end
def knUU (f : Nat → Nat → V) (args : List V) (h : Heap) : Option (V × Heap) := match args with | [.int .u32 (.ofNat a), .int .u32 (.ofNat b)] => some (f a b, h) | _ => none
def knU (f : Nat → V) (args : List V) (h : Heap) : Option (V × Heap) := match args with | [.int .u32 (.ofNat a)] => some (f a, h) | _ => none
def knI (f : Int → V) (args : List V) (h : Heap) : Option (V × Heap) := match args with | [.int .i32 a] => some (f a, h) | _ => none
@[simp] theorem knUU_nat (f : Nat → Nat → V) (a b : Nat) (h : Heap) : knUU f [.int .u32 a, .int .u32 b] h = some (f a b, h) := rfl
@[simp] theorem knU_nat (f : Nat → V) (a : Nat) (h : Heap) : knU f [.int .u32 a] h = some (f a, h) := rfl
@[simp] theorem knI_int (f : Int → V) (a : Int) (h : Heap) : knI f [.int .i32 a] h = some (f a, h) := rfl
section
variable {P : Program} {f : FuncId} {p : Array Oper → Bool}
end
def knOUU (f : Nat → Nat → Nat → V) (args : List V) (h : Heap) : Option (V × Heap) := match args with | [.int .u8 (.ofNat o), .int .u32 (.ofNat a), .int .u32 (.ofNat b)] => some (f o a b, h) | _ => none
@[simp] theorem knOUU_nat (f : Nat → Nat → Nat → V) (o a b : Nat) (h : Heap) : knOUU f [.int .u8 o, .int .u32 a, .int .u32 b] h = some (f o a b, h) := rfl
end Go.Sim
end
section
namespace Go.Sim
open Go Go.RowKit Go.ChangeShapes Go.WideShapes Go.Deep
set_option linter.unusedVariables false
set_option linter.unusedSimpArgs false
section
variable {H : Type} {enc : TypeId × Value → H} {P : Program} {W : World}
theorem weight_of {α : Type} {E : Enc α} {l : List α} {t e : TypeId} {v : Value} {d : DataW H} {ps : List MemPlace} {n : Nat} {ok : Nat → Prop} {B : Bd} (ht : P.underlying t = some (.slice e))
  (hT : DataW.trod enc P W 0 (fun _ => true) true n t [v] = some (d, ps)) (hv : VRel ok W B (lst E l) v) : l = [] ∨ ∃ x ∈ d.weights P t, l.length * P.bytesOf e ≤ x := by
 have hl : ∀ a len cap, v = .slice a len cap → len = l.length := by
  rintro a len cap rfl
  simp only [lst, VRel] at hv
  rcases hv with ⟨b, base, c, o, hv, _⟩ | ⟨h0, hv⟩
  ·simp only [Value.slice.injEq] at hv; exact hv.2.1
  ·simp only [Value.slice.injEq] at hv; omega
 rcases open_slice ht hT with ⟨h1, h2⟩ | ⟨a, len, cap, m, n', D, Pl, h1, _, _, _, _, h5, _⟩
 ·left
  have hv0 : v = .slice none 0 0 := by simpa using h1
  have := hl _ _ _ hv0
  exact List.eq_nil_of_length_eq_zero this.symm
 ·right
  have hv0 : v = .slice (some a) len cap := by simpa using h1
  have hlen := hl _ _ _ hv0
  simp only [Prod.mk.injEq] at h5
  obtain ⟨rfl, _⟩ := h5
  refine ⟨_, by simp only [DataW.weights, ht]; exact List.mem_cons_self, ?_⟩
  rw [← hlen]
  exact Nat.mul_le_mul_right _ (by simp)
theorem weight_each : ∀ {ts : List TypeId} {ds : List (DataW H)} {j : Nat} {t : TypeId} {d : DataW H} {x : Nat}, ts[j]? = some t → ds[j]? = some d → x ∈ d.weights P t → x ∈ DataW.weightsEach P ts ds
 | t0 :: ts, d0 :: ds, 0, t, d, x, ht, hd, hx => by
  simp only [List.getElem?_cons_zero, Option.some.injEq] at ht hd
  subst ht hd
  simp only [DataW.weightsEach, List.mem_append]; exact .inl hx
 | t0 :: ts, d0 :: ds, j + 1, t, d, x, ht, hd, hx => by
  simp only [List.getElem?_cons_succ] at ht hd
  simp only [DataW.weightsEach, List.mem_append]; exact .inr (weight_each ht hd hx)
 | [], _, _, _, _, _, ht, _, _ => by simp at ht
 | _ :: _, [], _, _, _, _, _, hd, _ => by simp at hd
theorem weight_le {α : Type} {E : Enc α} {l : List α} {t e : TypeId} {v : Value} {d : DataW H} {ps : List MemPlace} {n : Nat} {ok : Nat → Prop} {B : Bd} {ts : List TypeId} {ds : List (DataW H)} {j : Nat} (ht : P.underlying t = some (.slice e))
  (hT : DataW.trod enc P W 0 (fun _ => true) true n t [v] = some (d, ps)) (hv : VRel ok W B (lst E l) v) (hts : ts[j]? = some t) (hds : ds[j]? = some d) (hw : (DataW.weightsEach P ts ds).all (· ≤ reachBytes) = true) : l.length * P.bytesOf e ≤ 140737488351232 := by
 rcases weight_of ht hT hv with rfl | ⟨x, hx, hle⟩
 ·simp
 ·have := List.all_eq_true.1 hw x (weight_each hts hds hx)
  have h2 : x ≤ 140737488351232 := of_decide_eq_true this
  omega
end
end Go.Sim
end
section
namespace Go.Sim
open Go Go.RowKit
set_option linter.unusedVariables false
set_option linter.unusedSimpArgs false
section
variable {E : Env} {L : List (Nat × (List V → Option V))}
end
end Go.Sim
end
section
namespace Go.Sim
open Go
set_option linter.unusedVariables false
set_option linter.unusedSimpArgs false

theorem optMap_imp {f g : V → Option V} (k : V → V) (h : ∀ v u, f v = some u → g (k v) = some u) : ∀ l u, optMap f l = some u → optMap g (l.map k) = some u
 | [], u, hu => by simpa [optMap] using hu
 | v :: r, u, hu => by
  simp only [optMap, Option.bind_eq_some_iff] at hu
  obtain ⟨a, h1, b, h2, h3⟩ := hu
  simp only [List.map_cons, optMap, h v a h1, optMap_imp k h r b h2, Option.bind_some]
  exact h3
theorem outL_map (n : Nat) : ∀ l, V.outL n l = l.map (V.out n)
 | [] => by simp
 | v :: r => by simp [outL_map n r]
theorem get_one {X : List Blk} {d j : Nat} {b : Blk} (h : Heap.get [X] d j = some b) : d = 0 ∧ X[j]? = some b := by
 cases d with
 | zero => exact ⟨rfl, by simpa [Heap.get] using h⟩
 | succ d => simp [Heap.get] at h
section
variable (B X Y : List Blk) (R : Heap)
theorem get_out {j : Nat} {b : Blk} (h : X[j]? = some b) : Heap.get ((B ++ (X.map (outBlk B.length) ++ Y)) :: R) 0 (B.length + j) = some (outBlk B.length b) := by
 have hj := (List.getElem?_eq_some_iff.1 h).1
 simp only [Heap.get, List.getElem?_cons_zero, Option.bind_some]
 rw [List.getElem?_append_right (by omega), Nat.add_sub_cancel_left, List.getElem?_append_left (by simpa using hj), List.getElem?_map, h]
 rfl
theorem view_out : ∀ (m : Nat) (v u : V), V.view m [X] v = some u → V.view m ((B ++ (X.map (outBlk B.length) ++ Y)) :: R) (V.out B.length v) = some u
 | 0, v, u, h => by simp [V.view] at h
 | m + 1, v, u, h => by
  have ih := view_out m
  have ihL : ∀ l w, optMap (V.view m [X]) l = some w → optMap (V.view m ((B ++ (X.map (outBlk B.length) ++ Y)) :: R)) (V.outL B.length l) = some w := fun l w hl => by
   rw [outL_map]
   exact optMap_imp _ ih l w hl
  cases v with
  | pref d j off ep =>
   simp only [V.view] at h
   cases hg : Heap.get [X] d j with
   | none => rw [hg] at h; simp at h
   | some b =>
    obtain ⟨rfl, hx⟩ := get_one hg
    have hb := get_out B X Y R hx
    rw [hg] at h
    cases b with
    | row cells ep' esz flat plain =>
     simp only [V.out, if_true, V.view, hb, outBlk]
     cases flat with
     | true => simpa using h
     | false =>
      simp only [Bool.false_eq_true, if_false] at h ⊢
      split at h
      ·rename_i he
       simp only [Option.bind_eq_some_iff] at h
       obtain ⟨cs, h1, h2⟩ := h
       have := ihL cells cs h1
       simp only [List.drop_zero, he, if_true, this, Option.bind_some]
       exact h2
      ·cases h
    | loop fn t ps a b r p => simp at h
    | dead => simp at h
  | sref d j off len ep q =>
   simp only [V.view] at h
   cases hg : Heap.get [X] d j with
   | none => rw [hg] at h; simp at h
   | some b =>
    obtain ⟨rfl, hx⟩ := get_one hg
    have hb := get_out B X Y R hx
    rw [hg] at h
    cases b with
    | row cells ep' esz flat plain =>
     simp only [V.out, if_true, V.view, hb, outBlk]
     cases flat with
     | true => simpa using h
     | false =>
      simp only [Bool.false_eq_true, if_false] at h ⊢
      split at h
      ·rename_i he
       simp only [Option.bind_eq_some_iff] at h
       obtain ⟨cs, h1, h2⟩ := h
       have := ihL cells cs h1
       simp only [List.drop_zero, he, if_true, this, Option.bind_some]
       exact h2
      ·cases h
    | loop fn t ps a b r p => simp at h
    | dead => simp at h
  | func fn a b =>
   simp only [V.view, Option.bind_eq_some_iff] at h
   obtain ⟨a', h1, b', h2, h3⟩ := h
   simp only [V.out, V.view, ihL a a' h1, ihL b b' h2, Option.bind_some]
   exact h3
  | iface t v =>
   simp only [V.view, Option.bind_eq_some_iff] at h
   obtain ⟨a', h1, h3⟩ := h
   simp only [V.out, V.view, ih v a' h1, Option.bind_some]
   exact h3
  | agg cs =>
   simp only [V.view, Option.bind_eq_some_iff] at h
   obtain ⟨a', h1, h3⟩ := h
   simp only [V.out, V.view, ihL cs a' h1, Option.bind_some]
   exact h3
  | tuple cs =>
   simp only [V.view, Option.bind_eq_some_iff] at h
   obtain ⟨a', h1, h3⟩ := h
   simp only [V.out, V.view, ihL cs a' h1, Option.bind_some]
   exact h3
  | mref d j => simp [V.view] at h
  | yield d j => simp [V.view] at h
  | poison => simp [V.view] at h
  | _ => simpa [V.view, V.out] using h
end
end Go.Sim
end
