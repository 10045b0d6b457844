/-
  The machine of values: from a given statement's form to it. What an argument reads as, by its contents; what a law's answer is to be.
  The machine of values: arguments that are structs, by their cells; lists that nobody reads.
  The machine of values: lists of structs as arguments, by their contents.
  The machine of values: functions that answer numbers of numbers, by what they were walked to answer.
  The machine of values: how long a list can be that an argument reads as.
  The machine of values: a function's answers at arguments that were reckoned before, for lists in memory too.
  The machine of values: memory of one's own, read in the caller's level.
-/
import Derived.Test.YthiciofacaeddaaGreatMd
import Derived.Deep.Slices
import Derived.Carry
import Derived.ChangeSame
import Derived.OpenShut
import Derived.SizedLaws
section
namespace Go.Sim
open Go Go.RowKit Go.ChangeShapes Go.WideShapes Go.Deep
set_option linter.unusedVariables false
set_option linter.unusedSimpArgs false

theorem calls_of_callV {E : Env} (hq : EqOk E) (hE : FnOk E (fun _ => true)) (hK : KnownOk E (fun _ => true)) (hKI : KnownIn E) {f : FuncId} {args : List V} {r : V} {h' : Heap}
    (he : callV E (om E) f args [[]] = some (r, h')) {ok : Nat → Prop} {w : World} {args' : Array Value} (hok : ∀ b, ok b → b < w.heap.size) (ha : VRelL ok w Bd.none_ args args'.toList) {R : Ending → World → Prop}
    (hR : ∀ ok' B' w' v, After (fun _ => true) ok Bd.none_ w 1 h' r ok' B' w' v → R (.returned v) w') : Calls E.P f args' w R := by
  obtain ⟨n, hn⟩ := Fs.fuel E (callV_fs E f args [[]]) he
  have h := call_sound (ev_sound hq hE hK hKI n) hE hK hn ok Bd.none_ w args'.toList R (HR.empty hok) ha hR
  rw [Array.toArray_toList] at h
  exact callsIn_wide.1 h

theorem law_calls {E : Env} (hq : EqOk E) (hE : FnOk E (fun _ => true)) (hK : KnownOk E (fun _ => true)) (hKI : KnownIn E) {f : FuncId} {args : List V}
    (hk : E.known f = none) (hm : E.mode f = .pure) (hf : V.flatL args = true) (hv : viewArgs [[]] args = some args) (he : pureV E (om E) f false args = some (.bool true)) {w : World} {args' : Array Value} (ha : VRelL (fun b => b < w.heap.size) w Bd.none_ args args'.toList) :
    Calls E.P f args' w fun e w' => e = .returned (.bool true) ∧ Below w.heap.size w w' := by
  have hc : callV E (om E) f args [[]] = some (.bool true, [[]]) := by
    rw [callV_pure hk hm, hv, hf]
    simp only [Option.bind_some, Bool.not_true, he, Option.map_some]
  refine calls_of_callV hq hE hK hKI hc (fun b hb => hb) ha fun ok' B' w' v hA => ?_
  have hval := hA.val
  simp only [VRel] at hval
  subst hval
  exact ⟨rfl, hA.ext.os, hA.ext.tape, hA.ext.output, hA.ext.size, fun k hk => hA.ext.same k hk fun d j => by simp [Bd.none_, Ent.blk]⟩

section
variable {H : Type} {enc : TypeId × Value → H} {P : Program} {W W' : World}

theorem slice_shape {P : Program} {W : World} {r : Reach} {base : Nat} {t e : TypeId} {v : Value} (ht : P.underlying t = some (.slice e)) (hv : Value.okWide P W r base t v) : v = .slice none 0 0 ∨ ∃ b off len cap, v = .slice (some ⟨b, off, none⟩) len cap ∧ len ≤ cap := by
  simp only [Value.okWide, ht, Cell.okWide] at hv
  unfold Cell.ok at hv
  simp only [ht] at hv
  split at hv
  all_goals rename_i heq
  all_goals first | contradiction | (simp at heq; done) | skip
  · exact .inl rfl
  · rename_i a len cap
    obtain ⟨b, off, spot⟩ := a
    have := hv.2.2.2.1
    simp only at this; subst this
    exact .inr ⟨b, off, len, cap, rfl, hv.1⟩

theorem trodAll_below (hl : laidOutB P = true) (hb : Below W.heap.size W W') : ∀ {ts : List TypeId} {vs : List Value} {ds : List (DataW H)} {ps : List MemPlace},
    (∀ t ∈ ts, P.readableRec t = true ∧ t < P.types.size) → DataW.TrodAll enc P W 0 (fun _ => true) true ts vs ds ps → (∀ x ∈ ps, x.block < W.heap.size) → DataW.TrodAll enc P W' 0 (fun b => decide (b < W.heap.size)) true ts vs ds ps
  | [], [], [], ps, _, h, _ => h
  | t :: ts, v :: vs, d :: ds, ps, hr, h, hlt => by
    obtain ⟨p, q, h1, h2, rfl⟩ := h
    exact ⟨p, q, Below.trod hl (hr t (by simp)).1 (hr t (by simp)).2 h1 hb fun x hx => hlt x (by simp [hx]), trodAll_below hl hb (fun t ht => hr t (by simp [ht])) h2 fun x hx => hlt x (by simp [hx]), rfl⟩
  | [], _ :: _, _, _, _, h, _ => by simp [DataW.TrodAll] at h
  | [], [], _ :: _, _, _, h, _ => by simp [DataW.TrodAll] at h
  | _ :: _, [], _, _, _, h, _ => by simp [DataW.TrodAll] at h
  | _ :: _, _ :: _, [], _, _, h, _ => by simp [DataW.TrodAll] at h

theorem law_post {f : Func} {s : ChangeSpec} {apart fresh handsOn : Bool} {args : Array Value} {ds gs : List (DataW H)} {before : List MemPlace} {tb : TypeId}
    (hl : laidOutB P = true) (hrd : ∀ t ∈ f.params.toList, P.readableRec t = true ∧ t < P.types.size) (htb : P.underlying tb = some .bool) (hres : f.resultTypes = #[tb]) (hvars : s.vars = [])
    (hW : DataW.Whole enc P f.params.toList s.vars apart W args.toList ds gs before) (hfn : s.fn H (ds ++ gs) = { results := [.lit (.bool true)], args := ds }) (hb : Below W.heap.size W W') :
    s.post enc P f apart fresh handsOn false W args (.bool true) W' := by
  have hlt := hW.lt
  have hW' := hW
  obtain ⟨p, q, hA, hV, rfl, _, _⟩ := hW
  rw [hvars] at hV
  obtain ⟨rfl, rfl⟩ := trodVars_none hV
  refine ⟨ds, [], _, [], p, [], hW', ?_, ?_, ?_, Below.frame hb _, fun h => by cases h⟩
  · rw [hfn, hres]
    exact trodAll_cons_mk (shut_bool htb _) trodAll_mk0
  · rw [hfn]
    exact trodAll_below hl hb hrd hA fun x hx => hlt x (by simp [hx])
  · rw [hfn, hvars]; exact rfl
end
end Go.Sim
end
section
namespace Go.Sim
open Go Go.RowKit Go.ChangeShapes Go.WideShapes Go.Deep
set_option linter.unusedVariables false
set_option linter.unusedSimpArgs false

section
variable {P : Program} {W : World} {r : Reach} {b0 : Nat}

theorem struct_cells {t : TypeId} {fs : Array Field} {ts : List TypeId} {v : Value} (hu : P.underlying t = some (.struct fs)) (hct : P.cellTypes P.depth t = some ts) (hn : P.cellsOf t = ts.length) (hv : Value.okWide P W r b0 t v) :
    ∃ cs : List Value, v = .agg cs.toArray ∧ cs.length = ts.length ∧ ∀ (i : Nat) (x : Value) (u : TypeId), cs[i]? = some x → ts[i]? = some u → Cell.okWide P W r b0 u x := by
  simp only [Value.okWide, hu] at hv
  obtain ⟨cs, rfl, hsz, ts', hts, _, hcell⟩ := hv
  rw [hct] at hts
  obtain rfl := Option.some.inj hts
  refine ⟨cs.toList, by simp, by simp [hsz, hn], fun i x u hx hu => ?_⟩
  obtain ⟨u', hu', h⟩ := hcell i x (by simpa using hx)
  have hi : i < ts.length := (List.getElem?_eq_some_iff.1 hu).1
  rw [Nat.mod_eq_of_lt hi, hu] at hu'
  exact Option.some.inj hu' ▸ h
end
theorem six {cs : List Value} (h : cs.length = 6) : ∃ a b c d e f, cs = [a, b, c, d, e, f] := by
  match cs, h with
  | [a, b, c, d, e, f], _ => exact ⟨a, b, c, d, e, f, rfl⟩
end Go.Sim
end
section
namespace Go.Sim
open Go Go.RowKit Go.ChangeShapes Go.WideShapes Go.Deep
set_option linter.unusedVariables false
set_option linter.unusedSimpArgs false

def toVal : V → Value
  | .int k n => .int k n
  | .str s => .string ⟨s.toArray⟩
  | .bool b => .bool b
  | _ => .bool false
def simpleV : V → Bool
  | .int _ _ | .str _ | .bool _ => true
  | _ => false
theorem simple_rel {ok : Nat → Prop} {w : World} {B : Bd} {v : V} (h : simpleV v = true) : one (toVal v) = true ∧ VRel ok w B v (toVal v) := by
  cases v <;> simp [simpleV] at h <;> exact ⟨rfl, by simp [VRel, toVal]⟩
theorem crel_of {ok : Nat → Prop} {w : World} {b : Nat} : ∀ (cs : List V) (i : Nat), (∀ f v, cs[f]? = some v → w.cell? ⟨b, i + f, none⟩ = some (toVal v) ∧ simpleV v = true) → CRel ok w b i cs
  | [], i, _ => by simp [CRel]
  | v :: r, i, h => by
    simp only [CRel]
    obtain ⟨h1, h2⟩ := h 0 v rfl
    obtain ⟨g1, g2⟩ := simple_rel (ok := ok) (w := w) (B := Bd.none_) h2
    refine ⟨⟨_, h1, g1, g2⟩, crel_of r (i + 1) fun f u hf => ?_⟩
    have := h (f + 1) u (by simpa using hf)
    rw [show i + 1 + f = i + (f + 1) by omega]; exact this
theorem add_none (b o n : Nat) : (⟨b, o, none⟩ : Addr).add n = ⟨b, o + n, none⟩ := by
  unfold Addr.add; split <;> simp_all

section
variable {H : Type} {enc : TypeId × Value → H} {P : Program} {W : World}
theorem list_in {α : Type} [Inhabited α] (E : Enc α) {t e : TypeId} {n : Nat} {v : Value} {x : DataW H × List MemPlace} (ht : P.underlying t = some (.slice e)) (hce : P.cellsOf e = E.k)
    (hel : ∀ n cs x, DataW.trod enc P W 0 (fun _ => true) true n e cs = some x → ∃ a : α, cs = (E.enc a).map toVal ∧ ∀ u ∈ E.enc a, simpleV u = true)
    (hv : v = .slice none 0 0 ∨ ∃ b off len cap, v = .slice (some ⟨b, off, none⟩) len cap ∧ len ≤ cap) (hT : DataW.trod enc P W 0 (fun _ => true) true n t [v] = some x) :
    ∃ l : List α, one v = true ∧ VRel (fun b => b < W.heap.size) W Bd.none_ (lst E l) v ∧ l.length ≤ maxLen := by
  rcases hv with rfl | ⟨b, off, len, cap, rfl, hle⟩
  · exact ⟨[], rfl, by simp [VRel, lst], by simp⟩
  · rcases open_slice ht hT with ⟨h1, h2⟩ | ⟨a, len', cap', m, n', D, Pl, h1, _, h2, h3, h4, h5, h6⟩
    · simp at h1
    · simp at h1
      obtain ⟨rfl, rfl, rfl⟩ := h1
      simp only [if_true] at h4
      subst h4
      have hx : ∃ f : Nat → α, ∀ i, i < m → ∀ g u, (E.enc (f i))[g]? = some u → W.cell? ⟨b, off + i * E.k + g, none⟩ = some (toVal u) ∧ simpleV u = true := by
        have hb : ∀ i, i < m → ∃ y : α, ∀ g u, (E.enc y)[g]? = some u → W.cell? ⟨b, off + i * E.k + g, none⟩ = some (toVal u) ∧ simpleV u = true := by
          intro i hi
          obtain ⟨cs', hc1, hc2⟩ := h6 i hi
          obtain ⟨y, hy, hs⟩ := hel _ _ _ hc2
          obtain ⟨_, hl, hget⟩ := World.cells?_some hc1
          refine ⟨y, fun g u hg => ?_⟩
          have hgl : g < P.cellsOf e := by
            have := (List.getElem?_eq_some_iff.1 hg).1
            rw [hce, ← E.len y]; exact this
          have := hget g hgl
          rw [hce, add_none, add_none, hy, List.getElem?_map, hg] at this
          exact ⟨by simpa using this, hs u (List.mem_of_getElem? hg)⟩
        refine ⟨fun i => if h : i < m then (hb i h).choose else default, fun i hi => ?_⟩
        simp only [hi, dif_pos]
        exact (hb i hi).choose_spec
      obtain ⟨f, hf⟩ := hx
      refine ⟨(List.range len).map f, rfl, ?_, by simp; omega⟩
      have hlen : ((List.range len).map f).length = len := by simp
      simp only [lst, VRel, hlen]
      have hcell : ∀ g u, (cat E ((List.range len).map f))[g]? = some u → W.cell? ⟨b, off + g, none⟩ = some (toVal u) ∧ simpleV u = true := by
        intro g u hg
        have hk := E.pos
        have hdm : g / E.k * E.k + g % E.k = g := by rw [Nat.mul_comm]; exact Nat.div_add_mod g E.k
        rw [← hdm, cat_get E _ _ _ (Nat.mod_lt _ hk)] at hg
        obtain ⟨y, hy, hg⟩ := Option.bind_eq_some_iff.1 hg
        have hj : g / E.k < len := by have := (List.getElem?_eq_some_iff.1 hy).1; simpa using this
        simp [List.getElem?_map, List.getElem?_range hj] at hy
        subst hy
        have := hf (g / E.k) (by omega) (g % E.k) u hg
        rw [show off + g / E.k * E.k + g % E.k = off + g by omega] at this
        exact this
      refine .inl ⟨b, off, m, off, rfl, h2, by simp, fun _ => rfl, fun hne => ?_, crel_of _ _ hcell⟩
      cases hc : cat E ((List.range len).map f) with
      | nil => exact absurd hc hne
      | cons u r => exact lt_of_cell (hcell 0 u (by rw [hc]; rfl)).1
theorem two_in {e : TypeId} {f0 f1 : Field} {n : Nat} {cs : List Value} {x : DataW H × List MemPlace} (hu : P.underlying e = some (.struct #[f0, f1])) (h2 : P.cellsOf e = 2) (ho0 : f0.offset = 0) (ho1 : f1.offset = 1) (hc0 : P.cellsOf f0.type = 1) (hc1 : P.cellsOf f1.type = 1)
    (hT : DataW.trod enc P W 0 (fun _ => true) true n e cs = some x) : ∃ a b n' y z, cs = [a, b] ∧ DataW.trod enc P W 0 (fun _ => true) true n' f0.type [a] = some y ∧ DataW.trod enc P W 0 (fun _ => true) true n' f1.type [b] = some z := by
  obtain ⟨xs, n', rfl, hx, hl, hxl, hf⟩ := DataW.trod_struct hu hT
  rw [h2] at hl
  match cs, hl with
  | [a, b], _ =>
    have g0 := hf 0 f0 rfl
    have g1 := hf 1 f1 rfl
    rw [ho0, hc0] at g0
    rw [ho1, hc1] at g1
    simp at hxl
    match xs, hxl with
    | [y, z], _ => exact ⟨a, b, n', y, z, rfl, by simpa using g0, by simpa using g1⟩
end
end Go.Sim
end
section
namespace Go.Sim
open Go Go.RowKit
set_option linter.unusedVariables false
set_option linter.unusedSimpArgs false

section
variable {ok : Nat → Prop} {w w' : World} {B : Bd} {p : Array Oper → Bool} {h : Heap} {P : Program}
end
def knUU (f : Nat → Nat → V) (args : List V) (h : Heap) : Option (V × Heap) := match args with | [.int .u32 (.ofNat a), .int .u32 (.ofNat b)] => some (f a b, h) | _ => none
def knU (f : Nat → V) (args : List V) (h : Heap) : Option (V × Heap) := match args with | [.int .u32 (.ofNat a)] => some (f a, h) | _ => none
def knI (f : Int → V) (args : List V) (h : Heap) : Option (V × Heap) := match args with | [.int .i32 a] => some (f a, h) | _ => none
@[simp] theorem knUU_nat (f : Nat → Nat → V) (a b : Nat) (h : Heap) : knUU f [.int .u32 a, .int .u32 b] h = some (f a b, h) := rfl
@[simp] theorem knU_nat (f : Nat → V) (a : Nat) (h : Heap) : knU f [.int .u32 a] h = some (f a, h) := rfl
@[simp] theorem knI_int (f : Int → V) (a : Int) (h : Heap) : knI f [.int .i32 a] h = some (f a, h) := rfl
section
variable {P : Program} {f : FuncId} {p : Array Oper → Bool}
end
def knOUU (f : Nat → Nat → Nat → V) (args : List V) (h : Heap) : Option (V × Heap) := match args with | [.int .u8 (.ofNat o), .int .u32 (.ofNat a), .int .u32 (.ofNat b)] => some (f o a b, h) | _ => none
@[simp] theorem knOUU_nat (f : Nat → Nat → Nat → V) (o a b : Nat) (h : Heap) : knOUU f [.int .u8 o, .int .u32 a, .int .u32 b] h = some (f o a b, h) := rfl
end Go.Sim
end
section
namespace Go.Sim
open Go Go.RowKit Go.ChangeShapes Go.WideShapes Go.Deep
set_option linter.unusedVariables false
set_option linter.unusedSimpArgs false
section
variable {H : Type} {enc : TypeId × Value → H} {P : Program} {W : World}
theorem weight_of {α : Type} {E : Enc α} {l : List α} {t e : TypeId} {v : Value} {d : DataW H} {ps : List MemPlace} {n : Nat} {ok : Nat → Prop} {B : Bd} (ht : P.underlying t = some (.slice e))
    (hT : DataW.trod enc P W 0 (fun _ => true) true n t [v] = some (d, ps)) (hv : VRel ok W B (lst E l) v) : l = [] ∨ ∃ x ∈ d.weights P t, l.length * P.bytesOf e ≤ x := by
  have hl : ∀ a len cap, v = .slice a len cap → len = l.length := by
    rintro a len cap rfl
    simp only [lst, VRel] at hv
    rcases hv with ⟨b, base, c, o, hv, _⟩ | ⟨h0, hv⟩
    · simp only [Value.slice.injEq] at hv; exact hv.2.1
    · simp only [Value.slice.injEq] at hv; omega
  rcases open_slice ht hT with ⟨h1, h2⟩ | ⟨a, len, cap, m, n', D, Pl, h1, _, _, _, _, h5, _⟩
  · left
    have hv0 : v = .slice none 0 0 := by simpa using h1
    have := hl _ _ _ hv0
    exact List.eq_nil_of_length_eq_zero this.symm
  · right
    have hv0 : v = .slice (some a) len cap := by simpa using h1
    have hlen := hl _ _ _ hv0
    simp only [Prod.mk.injEq] at h5
    obtain ⟨rfl, _⟩ := h5
    refine ⟨_, by simp only [DataW.weights, ht]; exact List.mem_cons_self, ?_⟩
    rw [← hlen]
    exact Nat.mul_le_mul_right _ (by simp)
theorem weight_each : ∀ {ts : List TypeId} {ds : List (DataW H)} {j : Nat} {t : TypeId} {d : DataW H} {x : Nat}, ts[j]? = some t → ds[j]? = some d → x ∈ d.weights P t → x ∈ DataW.weightsEach P ts ds
  | t0 :: ts, d0 :: ds, 0, t, d, x, ht, hd, hx => by
    simp only [List.getElem?_cons_zero, Option.some.injEq] at ht hd
    subst ht hd
    simp only [DataW.weightsEach, List.mem_append]; exact .inl hx
  | t0 :: ts, d0 :: ds, j + 1, t, d, x, ht, hd, hx => by
    simp only [List.getElem?_cons_succ] at ht hd
    simp only [DataW.weightsEach, List.mem_append]; exact .inr (weight_each ht hd hx)
  | [], _, _, _, _, _, ht, _, _ => by simp at ht
  | _ :: _, [], _, _, _, _, _, hd, _ => by simp at hd
theorem weight_le {α : Type} {E : Enc α} {l : List α} {t e : TypeId} {v : Value} {d : DataW H} {ps : List MemPlace} {n : Nat} {ok : Nat → Prop} {B : Bd} {ts : List TypeId} {ds : List (DataW H)} {j : Nat} (ht : P.underlying t = some (.slice e))
    (hT : DataW.trod enc P W 0 (fun _ => true) true n t [v] = some (d, ps)) (hv : VRel ok W B (lst E l) v) (hts : ts[j]? = some t) (hds : ds[j]? = some d) (hw : (DataW.weightsEach P ts ds).all (· ≤ reachBytes) = true) : l.length * P.bytesOf e ≤ 140737488351232 := by
  rcases weight_of ht hT hv with rfl | ⟨x, hx, hle⟩
  · simp
  · have := List.all_eq_true.1 hw x (weight_each hts hds hx)
    have h2 : x ≤ 140737488351232 := of_decide_eq_true this
    omega
end
end Go.Sim
end
section
namespace Go.Sim
open Go Go.RowKit
set_option linter.unusedVariables false
set_option linter.unusedSimpArgs false
section
variable {E : Env} {L : List (Nat × (List V → Option V))}
end
end Go.Sim
end
section
namespace Go.Sim
open Go
set_option linter.unusedVariables false
set_option linter.unusedSimpArgs false

theorem optMap_imp {f g : V → Option V} (k : V → V) (h : ∀ v u, f v = some u → g (k v) = some u) : ∀ l u, optMap f l = some u → optMap g (l.map k) = some u
  | [], u, hu => by simpa [optMap] using hu
  | v :: r, u, hu => by
    simp only [optMap, Option.bind_eq_some_iff] at hu
    obtain ⟨a, h1, b, h2, h3⟩ := hu
    simp only [List.map_cons, optMap, h v a h1, optMap_imp k h r b h2, Option.bind_some]
    exact h3
theorem outL_map (n : Nat) : ∀ l, V.outL n l = l.map (V.out n)
  | [] => by simp
  | v :: r => by simp [outL_map n r]
theorem get_one {X : List Blk} {d j : Nat} {b : Blk} (h : Heap.get [X] d j = some b) : d = 0 ∧ X[j]? = some b := by
  cases d with
  | zero => exact ⟨rfl, by simpa [Heap.get] using h⟩
  | succ d => simp [Heap.get] at h
section
variable (B X Y : List Blk) (R : Heap)
theorem get_out {j : Nat} {b : Blk} (h : X[j]? = some b) : Heap.get ((B ++ (X.map (outBlk B.length) ++ Y)) :: R) 0 (B.length + j) = some (outBlk B.length b) := by
  have hj := (List.getElem?_eq_some_iff.1 h).1
  simp only [Heap.get, List.getElem?_cons_zero, Option.bind_some]
  rw [List.getElem?_append_right (by omega), Nat.add_sub_cancel_left, List.getElem?_append_left (by simpa using hj), List.getElem?_map, h]
  rfl
theorem view_out : ∀ (m : Nat) (v u : V), V.view m [X] v = some u → V.view m ((B ++ (X.map (outBlk B.length) ++ Y)) :: R) (V.out B.length v) = some u
  | 0, v, u, h => by simp [V.view] at h
  | m + 1, v, u, h => by
    have ih := view_out m
    have ihL : ∀ l w, optMap (V.view m [X]) l = some w → optMap (V.view m ((B ++ (X.map (outBlk B.length) ++ Y)) :: R)) (V.outL B.length l) = some w := fun l w hl => by
      rw [outL_map]
      exact optMap_imp _ ih l w hl
    cases v with
    | pref d j off ep =>
      simp only [V.view] at h
      cases hg : Heap.get [X] d j with
      | none => rw [hg] at h; simp at h
      | some b =>
        obtain ⟨rfl, hx⟩ := get_one hg
        have hb := get_out B X Y R hx
        rw [hg] at h
        cases b with
        | row cells ep' esz flat plain =>
          simp only [V.out, if_true, V.view, hb, outBlk]
          cases flat with
          | true => simpa using h
          | false =>
            simp only [Bool.false_eq_true, if_false] at h ⊢
            split at h
            · rename_i he
              simp only [Option.bind_eq_some_iff] at h
              obtain ⟨cs, h1, h2⟩ := h
              have := ihL cells cs h1
              simp only [List.drop_zero, he, if_true, this, Option.bind_some]
              exact h2
            · cases h
        | loop fn t ps a b r p => simp at h
        | dead => simp at h
    | sref d j off len ep q =>
      simp only [V.view] at h
      cases hg : Heap.get [X] d j with
      | none => rw [hg] at h; simp at h
      | some b =>
        obtain ⟨rfl, hx⟩ := get_one hg
        have hb := get_out B X Y R hx
        rw [hg] at h
        cases b with
        | row cells ep' esz flat plain =>
          simp only [V.out, if_true, V.view, hb, outBlk]
          cases flat with
          | true => simpa using h
          | false =>
            simp only [Bool.false_eq_true, if_false] at h ⊢
            split at h
            · rename_i he
              simp only [Option.bind_eq_some_iff] at h
              obtain ⟨cs, h1, h2⟩ := h
              have := ihL cells cs h1
              simp only [List.drop_zero, he, if_true, this, Option.bind_some]
              exact h2
            · cases h
        | loop fn t ps a b r p => simp at h
        | dead => simp at h
    | func fn a b =>
      simp only [V.view, Option.bind_eq_some_iff] at h
      obtain ⟨a', h1, b', h2, h3⟩ := h
      simp only [V.out, V.view, ihL a a' h1, ihL b b' h2, Option.bind_some]
      exact h3
    | iface t v =>
      simp only [V.view, Option.bind_eq_some_iff] at h
      obtain ⟨a', h1, h3⟩ := h
      simp only [V.out, V.view, ih v a' h1, Option.bind_some]
      exact h3
    | agg cs =>
      simp only [V.view, Option.bind_eq_some_iff] at h
      obtain ⟨a', h1, h3⟩ := h
      simp only [V.out, V.view, ihL cs a' h1, Option.bind_some]
      exact h3
    | tuple cs =>
      simp only [V.view, Option.bind_eq_some_iff] at h
      obtain ⟨a', h1, h3⟩ := h
      simp only [V.out, V.view, ihL cs a' h1, Option.bind_some]
      exact h3
    | mref d j => simp [V.view] at h
    | yield d j => simp [V.view] at h
    | poison => simp [V.view] at h
    | _ => simpa [V.view, V.out] using h
end
end Go.Sim
end
