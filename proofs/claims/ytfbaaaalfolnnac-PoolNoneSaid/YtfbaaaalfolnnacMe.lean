/-
  The machine of values: from a given statement's form to it. What an argument reads as, by its contents; what a law's answer is to be.
  The machine of values: arguments that are structs, by their cells; lists that nobody reads.
  A call of one goroutine, told for rows that say 'leaving'.
-/
import Derived.Test.YtfbaaaalfolnnacMd
import Derived.Deep.Slices
import Derived.Carry
import Derived.ChangeSame
import Derived.OpenShut
import Derived.Conc.LeavingOf
import Derived.LoneHanded
import Derived.Handed
section
namespace Go.Sim
open Go Go.RowKit Go.ChangeShapes Go.WideShapes Go.Deep
set_option linter.unusedVariables false
set_option linter.unusedSimpArgs false

/-- A call, told by the machine of values. -/
theorem calls_of_callV {E : Env} (hq : EqOk E) (hE : FnOk E (fun _ => true)) (hK : KnownOk E (fun _ => true)) (hKI : KnownIn E) {f : FuncId} {args : List V} {r : V} {h' : Heap}
    (he : callV E (om E) f args [[]] = some (r, h')) {ok : Nat → Prop} {w : World} {args' : Array Value} (hok : ∀ b, ok b → b < w.heap.size) (ha : VRelL ok w Bd.none_ args args'.toList) {R : Ending → World → Prop}
    (hR : ∀ ok' B' w' v, After (fun _ => true) ok Bd.none_ w 1 h' r ok' B' w' v → R (.returned v) w') : Calls E.P f args' w R := by
  obtain ⟨n, hn⟩ := Fs.fuel E (callV_fs E f args [[]]) he
  have h := call_sound (ev_sound hq hE hK hKI n) hE hK hn ok Bd.none_ w args'.toList R (HR.empty hok) ha hR
  rw [Array.toArray_toList] at h
  exact callsIn_wide.1 h

/-- A law: a pure function that answers true, of arguments by their contents. -/
theorem law_calls {E : Env} (hq : EqOk E) (hE : FnOk E (fun _ => true)) (hK : KnownOk E (fun _ => true)) (hKI : KnownIn E) {f : FuncId} {args : List V}
    (hk : E.known f = none) (hm : E.mode f = .pure) (hf : V.flatL args = true) (hv : viewArgs [[]] args = some args) (he : pureV E (om E) f false args = some (.bool true)) {w : World} {args' : Array Value} (ha : VRelL (fun b => b < w.heap.size) w Bd.none_ args args'.toList) :
    Calls E.P f args' w fun e w' => e = .returned (.bool true) ∧ Below w.heap.size w w' := by
  have hc : callV E (om E) f args [[]] = some (.bool true, [[]]) := by
    rw [callV_pure hk hm, hv, hf]
    simp only [Option.bind_some, Bool.not_true, he, Option.map_some]
  refine calls_of_callV hq hE hK hKI hc (fun b hb => hb) ha fun ok' B' w' v hA => ?_
  have hval := hA.val
  simp only [VRel] at hval
  subst hval
  exact ⟨rfl, hA.ext.os, hA.ext.tape, hA.ext.output, hA.ext.size, fun k hk => hA.ext.same k hk fun d j => by simp [Bd.none_, Ent.blk]⟩

section
variable {H : Type} {enc : TypeId × Value → H} {P : Program} {W W' : World}

theorem slice_shape {P : Program} {W : World} {r : Reach} {base : Nat} {t e : TypeId} {v : Value} (ht : P.underlying t = some (.slice e)) (hv : Value.okWide P W r base t v) : v = .slice none 0 0 ∨ ∃ b off len cap, v = .slice (some ⟨b, off, none⟩) len cap ∧ len ≤ cap := by
  simp only [Value.okWide, ht, Cell.okWide] at hv
  unfold Cell.ok at hv
  simp only [ht] at hv
  split at hv
  all_goals rename_i heq
  all_goals first | contradiction | (simp at heq; done) | skip
  · exact .inl rfl
  · rename_i a len cap
    obtain ⟨b, off, spot⟩ := a
    have := hv.2.2.2.1
    simp only at this; subst this
    exact .inr ⟨b, off, len, cap, rfl, hv.1⟩

theorem cells_bytes {w : World} {ok : Nat → Prop} {b : Nat} : ∀ (l : List UInt8) (i : Nat), (∀ j x, l[j]? = some x → w.cell? ⟨b, i + j, none⟩ = some (.int .u8 x.toNat)) → CRel ok w b i (cat eU8 l)
  | [], i, h => by simp [CRel]
  | x :: l, i, h => by
    have h0 : cat eU8 (x :: l) = .int .u8 x.toNat :: cat eU8 l := rfl
    rw [h0]
    simp only [CRel]
    refine ⟨⟨_, h 0 x rfl, rfl, by simp [VRel]⟩, cells_bytes l (i + 1) fun j y hj => ?_⟩
    have := h (j + 1) y (by simpa using hj)
    rw [show i + 1 + j = i + (j + 1) by omega]; exact this

/-- An argument of bytes. -/
theorem bytes_in {t e : TypeId} {b0 : Nat} {v : Value} {d : DataW H} {ps : List MemPlace} (ht : P.underlying t = some (.slice e)) (he : P.underlying e = some (.int .u8)) (hce : P.cellsOf e = 1)
    (hv : Value.okWide P W .any b0 t v) (hT : DataW.Trod enc P W 0 (fun _ => true) true t v d ps) : ∃ l : List UInt8, VRel (fun b => b < W.heap.size) W Bd.none_ (bs l) v ∧ l.length ≤ maxLen ∧
      ((d = .nil ∧ l = []) ∨ ∃ es sp, d = .slice es sp ∧ es.length = l.length) := by
  obtain ⟨fuel, hf⟩ := hT
  rcases slice_shape ht hv with rfl | ⟨b, off, len, cap, rfl, hle⟩
  · rcases open_slice1 ht hce hf with ⟨h1, h2⟩ | ⟨a, len, cap, m, n, V, D, Pl, h1, _⟩
    · simp only [Prod.mk.injEq] at h2
      exact ⟨[], by simp [VRel, lst], by simp, .inl ⟨h2.1, rfl⟩⟩
    · simp [Value.cells] at h1
  · rcases open_slice1 ht hce hf with ⟨h1, h2⟩ | ⟨a, len', cap', m, n, V, D, Pl, h1, _, h2, h3, h4, h5, h6⟩
    · simp [Value.cells] at h1
    · simp [Value.cells] at h1
      obtain ⟨rfl, rfl, rfl⟩ := h1
      simp only [if_true] at h4
      subst h4
      have hb : ∀ i, i < m → ∃ x : UInt8, V i = .int .u8 x.toNat := by
        intro i hi
        obtain ⟨n', hn', _, hw⟩ := DataW.trod_int he (h6 i hi).2
        simp only [List.cons.injEq, and_true] at hn'
        refine ⟨UInt8.ofNat n'.toNat, ?_⟩
        simp [Lit.wf, IntKind.min, IntKind.max] at hw
        rw [hn']
        congr 1
        simp only [UInt8.toNat_ofNat']
        omega
      have hx : ∃ f : Nat → UInt8, ∀ i, i < m → V i = .int .u8 (f i).toNat := by
        refine ⟨fun i => if h : i < m then (hb i h).choose else 0, fun i hi => ?_⟩
        simp only [hi, dif_pos]
        exact (hb i hi).choose_spec
      obtain ⟨f, hf'⟩ := hx
      have hcell : ∀ i, i < m → W.cell? ⟨b, off + i, none⟩ = some (.int .u8 (f i).toNat) := by
        intro i hi
        have := (h6 i hi).1
        rw [hf' i hi] at this
        rw [← this, Addr.add]
        split <;> simp_all
      refine ⟨(List.range len).map f, ?_, by simp; omega, .inr ?_⟩
      · have hlen : ((List.range len).map f).length = len := by simp
        simp only [lst, VRel, hlen]
        refine .inl ⟨b, off, m, off, rfl, h2, by simp, fun _ => rfl, fun hne => ?_, cells_bytes _ _ fun j x hj => ?_⟩
        · have : 0 < len := by
            rcases Nat.eq_zero_or_pos len with h | h
            · subst h; simp [cat] at hne
            · exact h
          exact lt_of_cell (hcell 0 (by omega))
        · have hj' : j < len := by
            have := (List.getElem?_eq_some_iff.1 hj).1; simpa using this
          rw [hcell j (by omega)]
          simp [List.getElem?_map, List.getElem?_range hj'] at hj
          rw [hj]
      · simp only [Prod.mk.injEq] at h5
        exact ⟨_, _, h5.1, by simp⟩

theorem trodAll_below (hl : laidOutB P = true) (hb : Below W.heap.size W W') : ∀ {ts : List TypeId} {vs : List Value} {ds : List (DataW H)} {ps : List MemPlace},
    (∀ t ∈ ts, P.readableRec t = true ∧ t < P.types.size) → DataW.TrodAll enc P W 0 (fun _ => true) true ts vs ds ps → (∀ x ∈ ps, x.block < W.heap.size) → DataW.TrodAll enc P W' 0 (fun b => decide (b < W.heap.size)) true ts vs ds ps
  | [], [], [], ps, _, h, _ => h
  | t :: ts, v :: vs, d :: ds, ps, hr, h, hlt => by
    obtain ⟨p, q, h1, h2, rfl⟩ := h
    exact ⟨p, q, Below.trod hl (hr t (by simp)).1 (hr t (by simp)).2 h1 hb fun x hx => hlt x (by simp [hx]), trodAll_below hl hb (fun t ht => hr t (by simp [ht])) h2 fun x hx => hlt x (by simp [hx]), rfl⟩
  | [], _ :: _, _, _, _, h, _ => by simp [DataW.TrodAll] at h
  | [], [], _ :: _, _, _, h, _ => by simp [DataW.TrodAll] at h
  | _ :: _, [], _, _, _, h, _ => by simp [DataW.TrodAll] at h
  | _ :: _, _ :: _, [], _, _, h, _ => by simp [DataW.TrodAll] at h

/-- What a law leaves, from what its call left: it answers true, and below the heap's old end nothing has turned. -/
theorem law_post {f : Func} {s : ChangeSpec} {apart fresh handsOn : Bool} {args : Array Value} {ds gs : List (DataW H)} {before : List MemPlace} {tb : TypeId}
    (hl : laidOutB P = true) (hrd : ∀ t ∈ f.params.toList, P.readableRec t = true ∧ t < P.types.size) (htb : P.underlying tb = some .bool) (hres : f.resultTypes = #[tb]) (hvars : s.vars = [])
    (hW : DataW.Whole enc P f.params.toList s.vars apart W args.toList ds gs before) (hfn : s.fn H (ds ++ gs) = { results := [.lit (.bool true)], args := ds }) (hb : Below W.heap.size W W') :
    s.post enc P f apart fresh handsOn false W args (.bool true) W' := by
  have hlt := hW.lt
  have hW' := hW
  obtain ⟨p, q, hA, hV, rfl, _, _⟩ := hW
  rw [hvars] at hV
  obtain ⟨rfl, rfl⟩ := trodVars_none hV
  refine ⟨ds, [], _, [], p, [], hW', ?_, ?_, ?_, Below.frame hb _, fun h => by cases h⟩
  · rw [hfn, hres]
    exact trodAll_cons_mk (shut_bool htb _) trodAll_mk0
  · rw [hfn]
    exact trodAll_below hl hb hrd hA fun x hx => hlt x (by simp [hx])
  · rw [hfn, hvars]; exact rfl
end
end Go.Sim
end
section
namespace Go.Sim
open Go Go.RowKit Go.ChangeShapes Go.WideShapes Go.Deep
set_option linter.unusedVariables false
set_option linter.unusedSimpArgs false

section
variable {P : Program} {W : World} {r : Reach} {b0 : Nat}

theorem struct_cells {t : TypeId} {fs : Array Field} {ts : List TypeId} {v : Value} (hu : P.underlying t = some (.struct fs)) (hct : P.cellTypes P.depth t = some ts) (hn : P.cellsOf t = ts.length) (hv : Value.okWide P W r b0 t v) :
    ∃ cs : List Value, v = .agg cs.toArray ∧ cs.length = ts.length ∧ ∀ (i : Nat) (x : Value) (u : TypeId), cs[i]? = some x → ts[i]? = some u → Cell.okWide P W r b0 u x := by
  simp only [Value.okWide, hu] at hv
  obtain ⟨cs, rfl, hsz, ts', hts, _, hcell⟩ := hv
  rw [hct] at hts
  obtain rfl := Option.some.inj hts
  refine ⟨cs.toList, by simp, by simp [hsz, hn], fun i x u hx hu => ?_⟩
  obtain ⟨u', hu', h⟩ := hcell i x (by simpa using hx)
  have hi : i < ts.length := (List.getElem?_eq_some_iff.1 hu).1
  rw [Nat.mod_eq_of_lt hi, hu] at hu'
  exact Option.some.inj hu' ▸ h
theorem cell_int {u : TypeId} {k : IntKind} {x : Value} (hu : P.underlying u = some (.int k)) (hx : Cell.okWide P W r b0 u x) : ∃ n, x = .int k n := by
  simp only [Cell.okWide, hu] at hx
  unfold Cell.ok at hx
  simp only [hu] at hx
  split at hx
  all_goals rename_i heq
  all_goals first | contradiction | (simp at heq; done) | skip
  obtain ⟨h1, _⟩ := hx
  simp only [Option.some.injEq, TypeDesc.int.injEq] at heq
  subst h1 heq
  exact ⟨_, rfl⟩
theorem list_any {ok : Nat → Prop} {w : World} {x : Value} (h : x = .slice none 0 0 ∨ ∃ b off len cap, x = .slice (some ⟨b, off, none⟩) len cap ∧ len ≤ cap) : ∃ n, one x = true ∧ VRel ok w Bd.none_ (.scon [] 0 n false) x := by
  rcases h with rfl | ⟨b, off, len, cap, rfl, hle⟩
  · exact ⟨0, rfl, by simp [VRel]⟩
  · refine ⟨len, rfl, ?_⟩
    simp only [VRel]
    exact .inl ⟨b, off, cap, off, rfl, hle, (by simp), fun _ => rfl, fun h => absurd rfl h, trivial⟩
theorem cell_slice {ok : Nat → Prop} {u e : TypeId} {x : Value} (hu : P.underlying u = some (.slice e)) (hx : Cell.okWide P W r b0 u x) : ∃ n, one x = true ∧ VRel ok W Bd.none_ (.scon [] 0 n false) x := by
  refine list_any (slice_shape (P := P) (W := W) (r := r) (base := b0) (t := u) hu ?_)
  simp only [Value.okWide, hu]
  exact hx
end
theorem six {cs : List Value} (h : cs.length = 6) : ∃ a b c d e f, cs = [a, b, c, d, e, f] := by
  match cs, h with
  | [a, b, c, d, e, f], _ => exact ⟨a, b, c, d, e, f, rfl⟩
end Go.Sim
end
section
namespace Go.Sim
open Go Go.Conc
theorem good_of_calls {P : Program} {f : FuncId} {args : Array Value} {w : World} {Q : Value → World → Prop} (noInit : P.inits.idxOf? f = none)
    (h : Calls P f args w fun e w' => ∃ v, e = .returned v ∧ Q v w') :
    ∃ M last o w' t', runNT P (M + 1) (solo (G (Frame.enter P f args .normal) []) w) #[] = (.ended o w', t') ∧ runN P M (solo (G (Frame.enter P f args .normal) []) w) = .next last ∧
      step P last = .ended o w' ∧ Go.Conc.Good P Q last o w' t' := by
  have h' : Calls P f args w fun
      | .returned v, w' => Q v w'
      | _, _ => False := by
    refine Calls.mono (P := P) h fun e w' ⟨v, he, hq⟩ => ?_
    subst he
    exact hq
  obtain ⟨n, v, w', fr, hn, hend, hp⟩ := h'.done_lone noInit
  refine ⟨n, lone fr [] w', .done v, w', (runNT P (n + 1) (lone (Frame.enter P f args .normal) [] w) #[]).2, ?_, hn, step_of_runs hn hend, v, rfl, hp, fun said => (no_race_of_lone P n _ _ hn (by simp [lone]) rfl).2, handedOver_of_lone hn, ⟨by simp [lone], by simp [lone]⟩, ?_⟩
  · exact Prod.ext (by rw [runNT_fst]; exact hend) rfl
  · intro i g hg hne
    have hs : (lone fr [] w').gs.size = 1 := by simp [lone]
    have hi : i < (lone fr [] w').gs.size := (Array.getElem?_eq_some_iff.1 hg).1
    omega
end Go.Sim
end
