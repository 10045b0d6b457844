/-
  The machine of values: from a given statement's form to it. What an argument reads as, by its contents; what a law's answer is to be.
  The machine of values: arguments that are structs, by their cells; lists that nobody reads.
  The machine of values: lists of structs as arguments, by their contents.
  The machine of values: functions that answer numbers of numbers, by what they were walked to answer.
  The machine of values: a loop told by what changes at its head.
  The machine of values: structs of six numbers that are compared.
  The machine of values: how long a list can be that an argument reads as.
-/
import Derived.Test.YtnojknodojjnnaaGreatMd
import Derived.Deep.Slices
import Derived.Carry
import Derived.ChangeSame
import Derived.OpenShut
import Derived.SizedLaws
section
namespace Go.Sim
open Go Go.RowKit Go.ChangeShapes Go.WideShapes Go.Deep
set_option linter.unusedVariables false
set_option linter.unusedSimpArgs false

/-- A call, told by the machine of values. -/
theorem calls_of_callV {E : Env} (hq : EqOk E) (hE : FnOk E (fun _ => true)) (hK : KnownOk E (fun _ => true)) (hKI : KnownIn E) {f : FuncId} {args : List V} {r : V} {h' : Heap}
    (he : callV E (om E) f args [[]] = some (r, h')) {ok : Nat → Prop} {w : World} {args' : Array Value} (hok : ∀ b, ok b → b < w.heap.size) (ha : VRelL ok w Bd.none_ args args'.toList) {R : Ending → World → Prop}
    (hR : ∀ ok' B' w' v, After (fun _ => true) ok Bd.none_ w 1 h' r ok' B' w' v → R (.returned v) w') : Calls E.P f args' w R := by
  obtain ⟨n, hn⟩ := Fs.fuel E (callV_fs E f args [[]]) he
  have h := call_sound (ev_sound hq hE hK hKI n) hE hK hn ok Bd.none_ w args'.toList R (HR.empty hok) ha hR
  rw [Array.toArray_toList] at h
  exact callsIn_wide.1 h

/-- A law: a pure function that answers true, of arguments by their contents. -/
theorem law_calls {E : Env} (hq : EqOk E) (hE : FnOk E (fun _ => true)) (hK : KnownOk E (fun _ => true)) (hKI : KnownIn E) {f : FuncId} {args : List V}
    (hk : E.known f = none) (hm : E.mode f = .pure) (hf : V.flatL args = true) (hv : viewArgs [[]] args = some args) (he : pureV E (om E) f false args = some (.bool true)) {w : World} {args' : Array Value} (ha : VRelL (fun b => b < w.heap.size) w Bd.none_ args args'.toList) :
    Calls E.P f args' w fun e w' => e = .returned (.bool true) ∧ Below w.heap.size w w' := by
  have hc : callV E (om E) f args [[]] = some (.bool true, [[]]) := by
    rw [callV_pure hk hm, hv, hf]
    simp only [Option.bind_some, Bool.not_true, he, Option.map_some]
  refine calls_of_callV hq hE hK hKI hc (fun b hb => hb) ha fun ok' B' w' v hA => ?_
  have hval := hA.val
  simp only [VRel] at hval
  subst hval
  exact ⟨rfl, hA.ext.os, hA.ext.tape, hA.ext.output, hA.ext.size, fun k hk => hA.ext.same k hk fun d j => by simp [Bd.none_, Ent.blk]⟩

section
variable {H : Type} {enc : TypeId × Value → H} {P : Program} {W W' : World}

theorem slice_shape {P : Program} {W : World} {r : Reach} {base : Nat} {t e : TypeId} {v : Value} (ht : P.underlying t = some (.slice e)) (hv : Value.okWide P W r base t v) : v = .slice none 0 0 ∨ ∃ b off len cap, v = .slice (some ⟨b, off, none⟩) len cap ∧ len ≤ cap := by
  simp only [Value.okWide, ht, Cell.okWide] at hv
  unfold Cell.ok at hv
  simp only [ht] at hv
  split at hv
  all_goals rename_i heq
  all_goals first | contradiction | (simp at heq; done) | skip
  · exact .inl rfl
  · rename_i a len cap
    obtain ⟨b, off, spot⟩ := a
    have := hv.2.2.2.1
    simp only at this; subst this
    exact .inr ⟨b, off, len, cap, rfl, hv.1⟩

theorem cells_bytes {w : World} {ok : Nat → Prop} {b : Nat} : ∀ (l : List UInt8) (i : Nat), (∀ j x, l[j]? = some x → w.cell? ⟨b, i + j, none⟩ = some (.int .u8 x.toNat)) → CRel ok w b i (cat eU8 l)
  | [], i, h => by simp [CRel]
  | x :: l, i, h => by
    have h0 : cat eU8 (x :: l) = .int .u8 x.toNat :: cat eU8 l := rfl
    rw [h0]
    simp only [CRel]
    refine ⟨⟨_, h 0 x rfl, rfl, by simp [VRel]⟩, cells_bytes l (i + 1) fun j y hj => ?_⟩
    have := h (j + 1) y (by simpa using hj)
    rw [show i + 1 + j = i + (j + 1) by omega]; exact this

/-- An argument of bytes. -/
theorem bytes_in {t e : TypeId} {b0 : Nat} {v : Value} {d : DataW H} {ps : List MemPlace} (ht : P.underlying t = some (.slice e)) (he : P.underlying e = some (.int .u8)) (hce : P.cellsOf e = 1)
    (hv : Value.okWide P W .any b0 t v) (hT : DataW.Trod enc P W 0 (fun _ => true) true t v d ps) : ∃ l : List UInt8, VRel (fun b => b < W.heap.size) W Bd.none_ (bs l) v ∧ l.length ≤ maxLen ∧
      ((d = .nil ∧ l = []) ∨ ∃ es sp, d = .slice es sp ∧ es.length = l.length) := by
  obtain ⟨fuel, hf⟩ := hT
  rcases slice_shape ht hv with rfl | ⟨b, off, len, cap, rfl, hle⟩
  · rcases open_slice1 ht hce hf with ⟨h1, h2⟩ | ⟨a, len, cap, m, n, V, D, Pl, h1, _⟩
    · simp only [Prod.mk.injEq] at h2
      exact ⟨[], by simp [VRel, lst], by simp, .inl ⟨h2.1, rfl⟩⟩
    · simp [Value.cells] at h1
  · rcases open_slice1 ht hce hf with ⟨h1, h2⟩ | ⟨a, len', cap', m, n, V, D, Pl, h1, _, h2, h3, h4, h5, h6⟩
    · simp [Value.cells] at h1
    · simp [Value.cells] at h1
      obtain ⟨rfl, rfl, rfl⟩ := h1
      simp only [if_true] at h4
      subst h4
      have hb : ∀ i, i < m → ∃ x : UInt8, V i = .int .u8 x.toNat := by
        intro i hi
        obtain ⟨n', hn', _, hw⟩ := DataW.trod_int he (h6 i hi).2
        simp only [List.cons.injEq, and_true] at hn'
        refine ⟨UInt8.ofNat n'.toNat, ?_⟩
        simp [Lit.wf, IntKind.min, IntKind.max] at hw
        rw [hn']
        congr 1
        simp only [UInt8.toNat_ofNat']
        omega
      have hx : ∃ f : Nat → UInt8, ∀ i, i < m → V i = .int .u8 (f i).toNat := by
        refine ⟨fun i => if h : i < m then (hb i h).choose else 0, fun i hi => ?_⟩
        simp only [hi, dif_pos]
        exact (hb i hi).choose_spec
      obtain ⟨f, hf'⟩ := hx
      have hcell : ∀ i, i < m → W.cell? ⟨b, off + i, none⟩ = some (.int .u8 (f i).toNat) := by
        intro i hi
        have := (h6 i hi).1
        rw [hf' i hi] at this
        rw [← this, Addr.add]
        split <;> simp_all
      refine ⟨(List.range len).map f, ?_, by simp; omega, .inr ?_⟩
      · have hlen : ((List.range len).map f).length = len := by simp
        simp only [lst, VRel, hlen]
        refine .inl ⟨b, off, m, off, rfl, h2, by simp, fun _ => rfl, fun hne => ?_, cells_bytes _ _ fun j x hj => ?_⟩
        · have : 0 < len := by
            rcases Nat.eq_zero_or_pos len with h | h
            · subst h; simp [cat] at hne
            · exact h
          exact lt_of_cell (hcell 0 (by omega))
        · have hj' : j < len := by
            have := (List.getElem?_eq_some_iff.1 hj).1; simpa using this
          rw [hcell j (by omega)]
          simp [List.getElem?_map, List.getElem?_range hj'] at hj
          rw [hj]
      · simp only [Prod.mk.injEq] at h5
        exact ⟨_, _, h5.1, by simp⟩

theorem trodAll_below (hl : laidOutB P = true) (hb : Below W.heap.size W W') : ∀ {ts : List TypeId} {vs : List Value} {ds : List (DataW H)} {ps : List MemPlace},
    (∀ t ∈ ts, P.readableRec t = true ∧ t < P.types.size) → DataW.TrodAll enc P W 0 (fun _ => true) true ts vs ds ps → (∀ x ∈ ps, x.block < W.heap.size) → DataW.TrodAll enc P W' 0 (fun b => decide (b < W.heap.size)) true ts vs ds ps
  | [], [], [], ps, _, h, _ => h
  | t :: ts, v :: vs, d :: ds, ps, hr, h, hlt => by
    obtain ⟨p, q, h1, h2, rfl⟩ := h
    exact ⟨p, q, Below.trod hl (hr t (by simp)).1 (hr t (by simp)).2 h1 hb fun x hx => hlt x (by simp [hx]), trodAll_below hl hb (fun t ht => hr t (by simp [ht])) h2 fun x hx => hlt x (by simp [hx]), rfl⟩
  | [], _ :: _, _, _, _, h, _ => by simp [DataW.TrodAll] at h
  | [], [], _ :: _, _, _, h, _ => by simp [DataW.TrodAll] at h
  | _ :: _, [], _, _, _, h, _ => by simp [DataW.TrodAll] at h
  | _ :: _, _ :: _, [], _, _, h, _ => by simp [DataW.TrodAll] at h

/-- What a law leaves, from what its call left: it answers true, and below the heap's old end nothing has turned. -/
theorem law_post {f : Func} {s : ChangeSpec} {apart fresh handsOn : Bool} {args : Array Value} {ds gs : List (DataW H)} {before : List MemPlace} {tb : TypeId}
    (hl : laidOutB P = true) (hrd : ∀ t ∈ f.params.toList, P.readableRec t = true ∧ t < P.types.size) (htb : P.underlying tb = some .bool) (hres : f.resultTypes = #[tb]) (hvars : s.vars = [])
    (hW : DataW.Whole enc P f.params.toList s.vars apart W args.toList ds gs before) (hfn : s.fn H (ds ++ gs) = { results := [.lit (.bool true)], args := ds }) (hb : Below W.heap.size W W') :
    s.post enc P f apart fresh handsOn false W args (.bool true) W' := by
  have hlt := hW.lt
  have hW' := hW
  obtain ⟨p, q, hA, hV, rfl, _, _⟩ := hW
  rw [hvars] at hV
  obtain ⟨rfl, rfl⟩ := trodVars_none hV
  refine ⟨ds, [], _, [], p, [], hW', ?_, ?_, ?_, Below.frame hb _, fun h => by cases h⟩
  · rw [hfn, hres]
    exact trodAll_cons_mk (shut_bool htb _) trodAll_mk0
  · rw [hfn]
    exact trodAll_below hl hb hrd hA fun x hx => hlt x (by simp [hx])
  · rw [hfn, hvars]; exact rfl
end
end Go.Sim
end
section
namespace Go.Sim
open Go Go.RowKit Go.ChangeShapes Go.WideShapes Go.Deep
set_option linter.unusedVariables false
set_option linter.unusedSimpArgs false

section
variable {P : Program} {W : World} {r : Reach} {b0 : Nat}

theorem struct_cells {t : TypeId} {fs : Array Field} {ts : List TypeId} {v : Value} (hu : P.underlying t = some (.struct fs)) (hct : P.cellTypes P.depth t = some ts) (hn : P.cellsOf t = ts.length) (hv : Value.okWide P W r b0 t v) :
    ∃ cs : List Value, v = .agg cs.toArray ∧ cs.length = ts.length ∧ ∀ (i : Nat) (x : Value) (u : TypeId), cs[i]? = some x → ts[i]? = some u → Cell.okWide P W r b0 u x := by
  simp only [Value.okWide, hu] at hv
  obtain ⟨cs, rfl, hsz, ts', hts, _, hcell⟩ := hv
  rw [hct] at hts
  obtain rfl := Option.some.inj hts
  refine ⟨cs.toList, by simp, by simp [hsz, hn], fun i x u hx hu => ?_⟩
  obtain ⟨u', hu', h⟩ := hcell i x (by simpa using hx)
  have hi : i < ts.length := (List.getElem?_eq_some_iff.1 hu).1
  rw [Nat.mod_eq_of_lt hi, hu] at hu'
  exact Option.some.inj hu' ▸ h
theorem cell_int {u : TypeId} {k : IntKind} {x : Value} (hu : P.underlying u = some (.int k)) (hx : Cell.okWide P W r b0 u x) : ∃ n, x = .int k n := by
  simp only [Cell.okWide, hu] at hx
  unfold Cell.ok at hx
  simp only [hu] at hx
  split at hx
  all_goals rename_i heq
  all_goals first | contradiction | (simp at heq; done) | skip
  obtain ⟨h1, _⟩ := hx
  simp only [Option.some.injEq, TypeDesc.int.injEq] at heq
  subst h1 heq
  exact ⟨_, rfl⟩
theorem list_any {ok : Nat → Prop} {w : World} {x : Value} (h : x = .slice none 0 0 ∨ ∃ b off len cap, x = .slice (some ⟨b, off, none⟩) len cap ∧ len ≤ cap) : ∃ n, one x = true ∧ VRel ok w Bd.none_ (.scon [] 0 n false) x := by
  rcases h with rfl | ⟨b, off, len, cap, rfl, hle⟩
  · exact ⟨0, rfl, by simp [VRel]⟩
  · refine ⟨len, rfl, ?_⟩
    simp only [VRel]
    exact .inl ⟨b, off, cap, off, rfl, hle, (by simp), fun _ => rfl, fun h => absurd rfl h, trivial⟩
theorem cell_slice {ok : Nat → Prop} {u e : TypeId} {x : Value} (hu : P.underlying u = some (.slice e)) (hx : Cell.okWide P W r b0 u x) : ∃ n, one x = true ∧ VRel ok W Bd.none_ (.scon [] 0 n false) x := by
  refine list_any (slice_shape (P := P) (W := W) (r := r) (base := b0) (t := u) hu ?_)
  simp only [Value.okWide, hu]
  exact hx
end
theorem six {cs : List Value} (h : cs.length = 6) : ∃ a b c d e f, cs = [a, b, c, d, e, f] := by
  match cs, h with
  | [a, b, c, d, e, f], _ => exact ⟨a, b, c, d, e, f, rfl⟩
end Go.Sim
end
section
namespace Go.Sim
open Go Go.RowKit Go.ChangeShapes Go.WideShapes Go.Deep
set_option linter.unusedVariables false
set_option linter.unusedSimpArgs false

/-- The cell that a number, a text, a bool is. -/
def toVal : V → Value
  | .int k n => .int k n
  | .str s => .string ⟨s.toArray⟩
  | .bool b => .bool b
  | _ => .bool false
def simpleV : V → Bool
  | .int _ _ | .str _ | .bool _ => true
  | _ => false
theorem simple_rel {ok : Nat → Prop} {w : World} {B : Bd} {v : V} (h : simpleV v = true) : one (toVal v) = true ∧ VRel ok w B v (toVal v) := by
  cases v <;> simp [simpleV] at h <;> exact ⟨rfl, by simp [VRel, toVal]⟩
theorem crel_of {ok : Nat → Prop} {w : World} {b : Nat} : ∀ (cs : List V) (i : Nat), (∀ f v, cs[f]? = some v → w.cell? ⟨b, i + f, none⟩ = some (toVal v) ∧ simpleV v = true) → CRel ok w b i cs
  | [], i, _ => by simp [CRel]
  | v :: r, i, h => by
    simp only [CRel]
    obtain ⟨h1, h2⟩ := h 0 v rfl
    obtain ⟨g1, g2⟩ := simple_rel (ok := ok) (w := w) (B := Bd.none_) h2
    refine ⟨⟨_, h1, g1, g2⟩, crel_of r (i + 1) fun f u hf => ?_⟩
    have := h (f + 1) u (by simpa using hf)
    rw [show i + 1 + f = i + (f + 1) by omega]; exact this
theorem add_none (b o n : Nat) : (⟨b, o, none⟩ : Addr).add n = ⟨b, o + n, none⟩ := by
  unfold Addr.add; split <;> simp_all

section
variable {H : Type} {enc : TypeId × Value → H} {P : Program} {W : World}
theorem list_in {α : Type} [Inhabited α] (E : Enc α) {t e : TypeId} {n : Nat} {v : Value} {x : DataW H × List MemPlace} (ht : P.underlying t = some (.slice e)) (hce : P.cellsOf e = E.k)
    (hel : ∀ n cs x, DataW.trod enc P W 0 (fun _ => true) true n e cs = some x → ∃ a : α, cs = (E.enc a).map toVal ∧ ∀ u ∈ E.enc a, simpleV u = true)
    (hv : v = .slice none 0 0 ∨ ∃ b off len cap, v = .slice (some ⟨b, off, none⟩) len cap ∧ len ≤ cap) (hT : DataW.trod enc P W 0 (fun _ => true) true n t [v] = some x) :
    ∃ l : List α, one v = true ∧ VRel (fun b => b < W.heap.size) W Bd.none_ (lst E l) v ∧ l.length ≤ maxLen := by
  rcases hv with rfl | ⟨b, off, len, cap, rfl, hle⟩
  · exact ⟨[], rfl, by simp [VRel, lst], by simp⟩
  · rcases open_slice ht hT with ⟨h1, h2⟩ | ⟨a, len', cap', m, n', D, Pl, h1, _, h2, h3, h4, h5, h6⟩
    · simp at h1
    · simp at h1
      obtain ⟨rfl, rfl, rfl⟩ := h1
      simp only [if_true] at h4
      subst h4
      have hx : ∃ f : Nat → α, ∀ i, i < m → ∀ g u, (E.enc (f i))[g]? = some u → W.cell? ⟨b, off + i * E.k + g, none⟩ = some (toVal u) ∧ simpleV u = true := by
        have hb : ∀ i, i < m → ∃ y : α, ∀ g u, (E.enc y)[g]? = some u → W.cell? ⟨b, off + i * E.k + g, none⟩ = some (toVal u) ∧ simpleV u = true := by
          intro i hi
          obtain ⟨cs', hc1, hc2⟩ := h6 i hi
          obtain ⟨y, hy, hs⟩ := hel _ _ _ hc2
          obtain ⟨_, hl, hget⟩ := World.cells?_some hc1
          refine ⟨y, fun g u hg => ?_⟩
          have hgl : g < P.cellsOf e := by
            have := (List.getElem?_eq_some_iff.1 hg).1
            rw [hce, ← E.len y]; exact this
          have := hget g hgl
          rw [hce, add_none, add_none, hy, List.getElem?_map, hg] at this
          exact ⟨by simpa using this, hs u (List.mem_of_getElem? hg)⟩
        refine ⟨fun i => if h : i < m then (hb i h).choose else default, fun i hi => ?_⟩
        simp only [hi, dif_pos]
        exact (hb i hi).choose_spec
      obtain ⟨f, hf⟩ := hx
      refine ⟨(List.range len).map f, rfl, ?_, by simp; omega⟩
      have hlen : ((List.range len).map f).length = len := by simp
      simp only [lst, VRel, hlen]
      have hcell : ∀ g u, (cat E ((List.range len).map f))[g]? = some u → W.cell? ⟨b, off + g, none⟩ = some (toVal u) ∧ simpleV u = true := by
        intro g u hg
        have hk := E.pos
        have hdm : g / E.k * E.k + g % E.k = g := by rw [Nat.mul_comm]; exact Nat.div_add_mod g E.k
        rw [← hdm, cat_get E _ _ _ (Nat.mod_lt _ hk)] at hg
        obtain ⟨y, hy, hg⟩ := Option.bind_eq_some_iff.1 hg
        have hj : g / E.k < len := by have := (List.getElem?_eq_some_iff.1 hy).1; simpa using this
        simp [List.getElem?_map, List.getElem?_range hj] at hy
        subst hy
        have := hf (g / E.k) (by omega) (g % E.k) u hg
        rw [show off + g / E.k * E.k + g % E.k = off + g by omega] at this
        exact this
      refine .inl ⟨b, off, m, off, rfl, h2, by simp, fun _ => rfl, fun hne => ?_, crel_of _ _ hcell⟩
      cases hc : cat E ((List.range len).map f) with
      | nil => exact absurd hc hne
      | cons u r => exact lt_of_cell (hcell 0 u (by rw [hc]; rfl)).1
/-- A struct of two simple fields. -/
theorem two_in {e : TypeId} {f0 f1 : Field} {n : Nat} {cs : List Value} {x : DataW H × List MemPlace} (hu : P.underlying e = some (.struct #[f0, f1])) (h2 : P.cellsOf e = 2) (ho0 : f0.offset = 0) (ho1 : f1.offset = 1) (hc0 : P.cellsOf f0.type = 1) (hc1 : P.cellsOf f1.type = 1)
    (hT : DataW.trod enc P W 0 (fun _ => true) true n e cs = some x) : ∃ a b n' y z, cs = [a, b] ∧ DataW.trod enc P W 0 (fun _ => true) true n' f0.type [a] = some y ∧ DataW.trod enc P W 0 (fun _ => true) true n' f1.type [b] = some z := by
  obtain ⟨xs, n', rfl, hx, hl, hxl, hf⟩ := DataW.trod_struct hu hT
  rw [h2] at hl
  match cs, hl with
  | [a, b], _ =>
    have g0 := hf 0 f0 rfl
    have g1 := hf 1 f1 rfl
    rw [ho0, hc0] at g0
    rw [ho1, hc1] at g1
    simp at hxl
    match xs, hxl with
    | [y, z], _ => exact ⟨a, b, n', y, z, rfl, by simpa using g0, by simpa using g1⟩
end
end Go.Sim
end
section
namespace Go.Sim
open Go Go.RowKit
set_option linter.unusedVariables false
set_option linter.unusedSimpArgs false

section
variable {ok : Nat → Prop} {w w' : World} {B : Bd} {p : Array Oper → Bool} {h : Heap} {P : Program}
theorem Ext.below (hh : HR ok w B p h) (hb : Below w.heap.size w w') : Ext ok B w ok B w' ∧ HR ok w' B p h := by
  refine ⟨⟨hb.size, hb.os, hb.tape, hb.output, fun b h1 _ => hb.block b h1, fun _ _ => Iff.rfl, fun d j => EntLe.refl _ fun b h1 => ?_, fun _ _ _ h1 _ => h1⟩,
    hh.world hb.size (fun b h1 => hb.block b (hh.okn b h1).1) fun d j b h1 => hb.block b (hh.lt d j b h1)⟩
  simp only [csize, hb.block b (hh.lt d j b h1)]; exact Nat.le_refl _
theorem callsIn_plain (hh : HR ok w B p h) {f : FuncId} {args : Array Value} {r : V} {v : Value} (hv : ∀ w', VRel ok w' B r v) {R : Ending → World → Prop}
    (hc : Calls P f args w fun e w' => e = .returned v ∧ Below w.heap.size w w') (hR : ∀ ok' B' w' v, After p ok B w h.length h r ok' B' w' v → R (.returned v) w') :
    CallsIn Fence.wide 0 P f args w R :=
  callsIn_wide.2 (hc.mono fun e w' ⟨he, hb⟩ => by
    subst he
    obtain ⟨h1, h2⟩ := Ext.below hh hb
    exact hR _ _ _ _ ⟨h1, h2, hv _, rfl⟩)
end
theorem below_drew (w : World) : Below w.heap.size w w.drew := ⟨rfl, rfl, rfl, Nat.le_refl _, fun _ _ => rfl⟩
theorem below_or {w w' : World} (h : w' = w ∨ w' = w.drew) : Below w.heap.size w w' := by
  rcases h with rfl | rfl
  · exact Below.refl _ _
  · exact below_drew _

def knUU (f : Nat → Nat → V) (args : List V) (h : Heap) : Option (V × Heap) := match args with | [.int .u32 (.ofNat a), .int .u32 (.ofNat b)] => some (f a b, h) | _ => none
def knU (f : Nat → V) (args : List V) (h : Heap) : Option (V × Heap) := match args with | [.int .u32 (.ofNat a)] => some (f a, h) | _ => none
def knI (f : Int → V) (args : List V) (h : Heap) : Option (V × Heap) := match args with | [.int .i32 a] => some (f a, h) | _ => none
@[simp] theorem knUU_nat (f : Nat → Nat → V) (a b : Nat) (h : Heap) : knUU f [.int .u32 a, .int .u32 b] h = some (f a b, h) := rfl
@[simp] theorem knU_nat (f : Nat → V) (a : Nat) (h : Heap) : knU f [.int .u32 a] h = some (f a, h) := rfl
@[simp] theorem knI_int (f : Int → V) (a : Int) (h : Heap) : knI f [.int .i32 a] h = some (f a, h) := rfl
section
variable {P : Program} {f : FuncId} {p : Array Oper → Bool}
theorem known_uu {k : IntKind} {F : Nat → Nat → Int} (hw : ∀ (a b : Nat) (w : World), Calls P f #[.int .u32 a, .int .u32 b] w fun e w' => e = .returned (.int k (F a b)) ∧ (w' = w ∨ w' = w.drew)) :
    ∀ args h r h', knUU (fun a b => .int k (F a b)) args h = some (r, h') → CallS P p f args h r h' := by
  intro args h r h' hc
  unfold knUU at hc
  split at hc
  · rename_i a b
    simp only [Option.some.injEq, Prod.mk.injEq] at hc
    obtain ⟨rfl, rfl⟩ := hc
    intro ok B w args' R hh ha hR
    simp only [VRelL, VRel] at ha
    obtain ⟨v, l', rfl, rfl, v', l'', rfl, rfl, rfl⟩ := ha
    exact callsIn_plain hh (fun w' => by simp only [VRel]) ((hw a b w).mono fun e w' ⟨h1, h2⟩ => ⟨h1, below_or h2⟩) hR
  · cases hc
theorem known_u {k : IntKind} {F : Nat → Int} (hw : ∀ (a : Nat) (w : World), Calls P f #[.int .u32 a] w fun e w' => e = .returned (.int k (F a)) ∧ w' = w) :
    ∀ args h r h', knU (fun a => .int k (F a)) args h = some (r, h') → CallS P p f args h r h' := by
  intro args h r h' hc
  unfold knU at hc
  split at hc
  · rename_i a
    simp only [Option.some.injEq, Prod.mk.injEq] at hc
    obtain ⟨rfl, rfl⟩ := hc
    intro ok B w args' R hh ha hR
    simp only [VRelL, VRel] at ha
    obtain ⟨v, l', rfl, rfl, rfl⟩ := ha
    exact callsIn_plain hh (fun w' => by simp only [VRel]) ((hw a w).mono fun e w' ⟨h1, h2⟩ => ⟨h1, below_or (.inl h2)⟩) hR
  · cases hc
theorem known_i {k : IntKind} {F : Int → Int} (hw : ∀ (a : Int) (w : World), Calls P f #[.int .i32 a] w fun e w' => e = .returned (.int k (F a)) ∧ w' = w) :
    ∀ args h r h', knI (fun a => .int k (F a)) args h = some (r, h') → CallS P p f args h r h' := by
  intro args h r h' hc
  unfold knI at hc
  split at hc
  · rename_i a
    simp only [Option.some.injEq, Prod.mk.injEq] at hc
    obtain ⟨rfl, rfl⟩ := hc
    intro ok B w args' R hh ha hR
    simp only [VRelL, VRel] at ha
    obtain ⟨v, l', rfl, rfl, rfl⟩ := ha
    exact callsIn_plain hh (fun w' => by simp only [VRel]) ((hw a w).mono fun e w' ⟨h1, h2⟩ => ⟨h1, below_or (.inl h2)⟩) hR
  · cases hc
end
def knOUU (f : Nat → Nat → Nat → V) (args : List V) (h : Heap) : Option (V × Heap) := match args with | [.int .u8 (.ofNat o), .int .u32 (.ofNat a), .int .u32 (.ofNat b)] => some (f o a b, h) | _ => none
@[simp] theorem knOUU_nat (f : Nat → Nat → Nat → V) (o a b : Nat) (h : Heap) : knOUU f [.int .u8 o, .int .u32 a, .int .u32 b] h = some (f o a b, h) := rfl
/-- A function of an operation and two words that answers a word and a fault. -/
theorem known_ouu {P : Program} {f : FuncId} {p : Array Oper → Bool} {F G : Nat → Nat → Nat → Nat} (hw : ∀ (o a b : Nat) (w : World), Calls P f #[.int .u8 o, .int .u32 a, .int .u32 b] w fun e w' => e = .returned (.tuple #[.int .u32 (F o a b), .int .i64 (G o a b)]) ∧ Below w.heap.size w w') :
    ∀ args h r h', knOUU (fun o a b => .tuple [.int .u32 (F o a b), .int .i64 (G o a b)]) args h = some (r, h') → CallS P p f args h r h' := by
  intro args h r h' hc
  unfold knOUU at hc
  split at hc
  · rename_i o a b
    simp only [Option.some.injEq, Prod.mk.injEq] at hc
    obtain ⟨rfl, rfl⟩ := hc
    intro ok B w args' R hh ha hR
    simp only [VRelL, VRel] at ha
    obtain ⟨v, l1, rfl, rfl, v1, l2, rfl, rfl, v2, l3, rfl, rfl, rfl⟩ := ha
    exact callsIn_plain hh (fun w' => by simp [VRel, VRelL]) (hw o a b w) hR
  · cases hc
end Go.Sim
end
section
namespace Go.Sim
open Go
set_option linter.unusedVariables false
set_option linter.unusedSimpArgs false

/-- Slots written. -/
def puts (t : List V) : List (Nat × V) → List V
  | [] => t
  | (i, v) :: r => puts (put t i v) r
/-- Slots forgotten. -/
def forgT (t : List V) : List Hint → List V
  | [] => t
  | .forget i :: r => forgT (put t i .poison) r
  | _ :: r => forgT t r
/-- Blocks of the heap written: level, number, block. -/
def setsH (h : Heap) : List (Nat × Nat × Blk) → Heap
  | [] => h
  | (d, j, b) :: r => setsH (h.set d j b) r
/-- Blocks added to the own level. -/
def addsH (h : Heap) (l : List Blk) : Heap := h.setTop (h.top ++ l)
@[simp] theorem puts_nil (t) : puts t [] = t := rfl
@[simp] theorem puts_cons (t i v r) : puts t ((i, v) :: r) = puts (put t i v) r := rfl
@[simp] theorem forgT_nil (t) : forgT t [] = t := rfl
@[simp] theorem forgT_forget (t i r) : forgT t (.forget i :: r) = forgT (put t i .poison) r := rfl
@[simp] theorem forgT_canon (t i r) : forgT t (.canon i :: r) = forgT t r := rfl
@[simp] theorem forgT_promote (t i e r) : forgT t (.promote i e :: r) = forgT t r := rfl
@[simp] theorem forgT_promoteBox (t i o e r) : forgT t (.promoteBox i o e :: r) = forgT t r := rfl
@[simp] theorem forgT_promoteAll (t i o e r) : forgT t (.promoteAll i o e :: r) = forgT t r := rfl
@[simp] theorem setsH_nil (h) : setsH h [] = h := rfl
@[simp] theorem setsH_cons (h d j b r) : setsH h ((d, j, b) :: r) = setsH (h.set d j b) r := rfl
@[simp] theorem addsH_cons (l r : _) (b : List Blk) : addsH (l :: r) b = (l ++ b) :: r := rfl

/-- A loop, told by what changes at its head: slots, blocks, blocks added. -/
theorem loop_chg {E : Env} {fn : FuncId} {dyn : List Nat} {hs : List Hint} {body : Code} {R : Type} {k : Kont R} {t : List V} {h : Heap} {r : R} {p : Tag (body, k)} {α : Type}
    (S : α → List (Nat × V)) (H : α → List (Nat × Nat × Blk)) (A : α → List Blk) (Inv : α → Prop) (μ : α → Nat)
    (hh : E.hint fn ((firstRegion body).getD 0) = hs) (hd : okDraws E dyn body = true)
    (step : ∀ a, Inv a → (∀ b t' h', Inv b → μ b < μ a → hintsK hs t' h' (fun t h => lpB E fn dyn hs body k t h .mk) = lpB E fn dyn hs body k (puts (forgT t hs) (S b)) (addsH (setsH h (H b)) (A b)) .mk → lpK (om E) fn body k t' h' .mk = some r) →
      lpB E fn dyn hs body k (puts (forgT t hs) (S a)) (addsH (setsH h (H a)) (A a)) .mk = some r)
    (a : α) (ha : Inv a) (hi : hintsK hs t h (fun t h => lpB E fn dyn hs body k t h .mk) = lpB E fn dyn hs body k (puts (forgT t hs) (S a)) (addsH (setsH h (H a)) (A a)) .mk) : lpK (om E) fn body k t h p = some r :=
  loop_use (fun a => puts (forgT t hs) (S a)) (fun a => addsH (setsH h (H a)) (A a)) Inv μ hh hd step a ha hi

/-- Behind a jump to a label. -/
def ngK {R : Type} (k : Kont R) : Kont R := fun e t h => match e with | .goto _ => none | e => k e t h
@[simp ↓] theorem ngK_normal {R : Type} (k : Kont R) (t h) : ngK k .normal t h = k .normal t h := rfl
@[simp ↓] theorem ngK_ret {R : Type} (k : Kont R) (t h) : ngK k .ret t h = k .ret t h := rfl
@[simp ↓] theorem ngK_exit {R : Type} (k : Kont R) (i t h) : ngK k (.exit i) t h = k (.exit i) t h := rfl
theorem goto_use {E : Env} {R : Type} {fn : FuncId} {c rest : Code} {l : Nat} {k : Kont R} {t : List V} {h : Heap} {r : R} (dyn : List Nat) (hl : findLabel c l = some rest) (hd : okDraws E dyn rest = true)
    (hr : evK E (om E) fn dyn rest (ngK k) t h = some r) : scopeK (om E) fn c k (.goto l) t h = some r := by
  obtain ⟨e, t', h', h1, h2⟩ := evK_imp (E := E) (fn := fn) (dyn := dyn) rest (ngK k) t h hd hr
  simp only [scopeK, hl, h1, Option.bind_some, behind, if_true]
  exact h2
end Go.Sim
end
section
namespace Go.Sim
open Go
set_option linter.unusedVariables false
set_option linter.unusedSimpArgs false
section
variable {E : Env} {n : Nat} {t : TypeId} {xs ys : List V}
theorem eqF_int {f : Field} {r : List Field} {k : IntKind} {a b : Int} (hn : (f.name == "_") = false) (ha : isAggV E.P f.type = some false) (hu : E.P.underlying f.type = some (.int k)) (hx : xs[f.offset]? = some (.int k a)) (hy : ys[f.offset]? = some (.int k b)) :
    eqFields E (n + 2) (f :: r) xs ys = if (a == b) = true then eqFields E (n + 1) r xs ys else some false := by
  rw [eqF_cons hn ha hx hy, eqV_int hu]; rfl
theorem eqV_six {f0 f1 f2 f3 f4 f5 : Field} {k0 k1 k2 k3 k4 k5 : IntKind} {a0 a1 a2 a3 a4 a5 b0 b1 b2 b3 b4 b5 : Int} (hu : E.P.underlying t = some (.struct #[f0, f1, f2, f3, f4, f5])) (hc : E.eqTypes.contains t = true)
    (hn : ([f0, f1, f2, f3, f4, f5].all fun f => !(f.name == "_")) = true) (ho : [f0, f1, f2, f3, f4, f5].map (·.offset) = [0, 1, 2, 3, 4, 5])
    (h0 : E.P.underlying f0.type = some (.int k0)) (h1 : E.P.underlying f1.type = some (.int k1)) (h2 : E.P.underlying f2.type = some (.int k2)) (h3 : E.P.underlying f3.type = some (.int k3)) (h4 : E.P.underlying f4.type = some (.int k4)) (h5 : E.P.underlying f5.type = some (.int k5))
    (g0 : isAggV E.P f0.type = some false) (g1 : isAggV E.P f1.type = some false) (g2 : isAggV E.P f2.type = some false) (g3 : isAggV E.P f3.type = some false) (g4 : isAggV E.P f4.type = some false) (g5 : isAggV E.P f5.type = some false) :
    eqV E 200 t (.agg [.int k0 a0, .int k1 a1, .int k2 a2, .int k3 a3, .int k4 a4, .int k5 a5]) (.agg [.int k0 b0, .int k1 b1, .int k2 b2, .int k3 b3, .int k4 b4, .int k5 b5]) = some (decide (a0 = b0 ∧ a1 = b1 ∧ a2 = b2 ∧ a3 = b3 ∧ a4 = b4 ∧ a5 = b5)) := by
  simp only [List.map_cons, List.map_nil, List.cons.injEq, and_true] at ho
  obtain ⟨o0, o1, o2, o3, o4, o5⟩ := ho
  simp only [List.all_cons, List.all_nil, Bool.and_true, Bool.and_eq_true, Bool.not_eq_true'] at hn
  obtain ⟨n0, n1, n2, n3, n4, n5⟩ := hn
  rw [eqV_struct hu hc]
  show eqFields E 199 [f0, f1, f2, f3, f4, f5] _ _ = _
  rw [eqF_int n0 g0 h0 (by rw [o0]; rfl) (by rw [o0]; rfl), eqF_int n1 g1 h1 (by rw [o1]; rfl) (by rw [o1]; rfl), eqF_int n2 g2 h2 (by rw [o2]; rfl) (by rw [o2]; rfl),
    eqF_int n3 g3 h3 (by rw [o3]; rfl) (by rw [o3]; rfl), eqF_int n4 g4 h4 (by rw [o4]; rfl) (by rw [o4]; rfl), eqF_int n5 g5 h5 (by rw [o5]; rfl) (by rw [o5]; rfl), eqF_nil]
  by_cases c0 : a0 = b0 <;> by_cases c1 : a1 = b1 <;> by_cases c2 : a2 = b2 <;> by_cases c3 : a3 = b3 <;> by_cases c4 : a4 = b4 <;> by_cases c5 : a5 = b5 <;> simp [c0, c1, c2, c3, c4, c5]
end
end Go.Sim
end
section
namespace Go.Sim
open Go Go.RowKit Go.ChangeShapes Go.WideShapes Go.Deep
set_option linter.unusedVariables false
set_option linter.unusedSimpArgs false
section
variable {H : Type} {enc : TypeId × Value → H} {P : Program} {W : World}
theorem weight_of {α : Type} {E : Enc α} {l : List α} {t e : TypeId} {v : Value} {d : DataW H} {ps : List MemPlace} {n : Nat} {ok : Nat → Prop} {B : Bd} (ht : P.underlying t = some (.slice e))
    (hT : DataW.trod enc P W 0 (fun _ => true) true n t [v] = some (d, ps)) (hv : VRel ok W B (lst E l) v) : l = [] ∨ ∃ x ∈ d.weights P t, l.length * P.bytesOf e ≤ x := by
  have hl : ∀ a len cap, v = .slice a len cap → len = l.length := by
    rintro a len cap rfl
    simp only [lst, VRel] at hv
    rcases hv with ⟨b, base, c, o, hv, _⟩ | ⟨h0, hv⟩
    · simp only [Value.slice.injEq] at hv; exact hv.2.1
    · simp only [Value.slice.injEq] at hv; omega
  rcases open_slice ht hT with ⟨h1, h2⟩ | ⟨a, len, cap, m, n', D, Pl, h1, _, _, _, _, h5, _⟩
  · left
    have hv0 : v = .slice none 0 0 := by simpa using h1
    have := hl _ _ _ hv0
    exact List.eq_nil_of_length_eq_zero this.symm
  · right
    have hv0 : v = .slice (some a) len cap := by simpa using h1
    have hlen := hl _ _ _ hv0
    simp only [Prod.mk.injEq] at h5
    obtain ⟨rfl, _⟩ := h5
    refine ⟨_, by simp only [DataW.weights, ht]; exact List.mem_cons_self, ?_⟩
    rw [← hlen]
    exact Nat.mul_le_mul_right _ (by simp)
theorem weight_each : ∀ {ts : List TypeId} {ds : List (DataW H)} {j : Nat} {t : TypeId} {d : DataW H} {x : Nat}, ts[j]? = some t → ds[j]? = some d → x ∈ d.weights P t → x ∈ DataW.weightsEach P ts ds
  | t0 :: ts, d0 :: ds, 0, t, d, x, ht, hd, hx => by
    simp only [List.getElem?_cons_zero, Option.some.injEq] at ht hd
    subst ht hd
    simp only [DataW.weightsEach, List.mem_append]; exact .inl hx
  | t0 :: ts, d0 :: ds, j + 1, t, d, x, ht, hd, hx => by
    simp only [List.getElem?_cons_succ] at ht hd
    simp only [DataW.weightsEach, List.mem_append]; exact .inr (weight_each ht hd hx)
  | [], _, _, _, _, _, ht, _, _ => by simp at ht
  | _ :: _, [], _, _, _, _, _, hd, _ => by simp at hd
/-- A list of an argument, in bytes. -/
theorem weight_le {α : Type} {E : Enc α} {l : List α} {t e : TypeId} {v : Value} {d : DataW H} {ps : List MemPlace} {n : Nat} {ok : Nat → Prop} {B : Bd} {ts : List TypeId} {ds : List (DataW H)} {j : Nat} (ht : P.underlying t = some (.slice e))
    (hT : DataW.trod enc P W 0 (fun _ => true) true n t [v] = some (d, ps)) (hv : VRel ok W B (lst E l) v) (hts : ts[j]? = some t) (hds : ds[j]? = some d) (hw : (DataW.weightsEach P ts ds).all (· ≤ reachBytes) = true) : l.length * P.bytesOf e ≤ 140737488351232 := by
  rcases weight_of ht hT hv with rfl | ⟨x, hx, hle⟩
  · simp
  · have := List.all_eq_true.1 hw x (weight_each hts hds hx)
    have h2 : x ≤ 140737488351232 := of_decide_eq_true this
    omega
end
end Go.Sim
end
