/-
  The machine of values: code.
  The machine of values: kinds of operations, for regions that draw their order.
  The machine of values: kinds of operations, calls of named functions and all.
  The machine of values: what an operation looks at; the trace of a region.
  The machine of values: regions that draw their order.
  The machine of values: whatever order a region draws, it does what the order of the text does.
  The machine of values is sound.
-/
import Derived.Test.YtfbaaaalfolnnacMb
import Derived.ScopeJumps
section
namespace Go.Sim
open Go
set_option linter.unusedVariables false
set_option linter.unusedSimpArgs false
set_option linter.unusedSectionVars false

section
variable {ok ok2 ok' : Nat → Prop} {w w' : World} {B B' : Bd} {p : Array Oper → Bool} {h : Heap}

theorem put_rel {tmps : List V} {a : Act} {v : V} {c : Value} (ht : VRelL ok w B tmps a.tmps.toList) (dst : Option Tmp) (hv : VRel ok w B v c) : VRelL ok w B (putT tmps dst v) (a.put dst c).tmps.toList := by
  cases dst with
  | none => exact ht
  | some d =>
    simp only [putT, Act.put, Array.toList_setIfInBounds]
    exact ht.set d hv
theorem put_defers (a : Act) (dst : Option Tmp) (c : Value) : (a.put dst c).defers = a.defers := by cases dst <;> rfl

theorem VRel.not_bool {v : V} {c : Value} (hr : VRel ok w B v c) (hp : v ≠ .poison) (hb : ∀ b, v ≠ .bool b) : ∀ b, c ≠ .bool b := by
  intro b hc
  subst hc
  cases v with
  | bool b' => exact hb _ rfl
  | poison => exact hp rfl
  | pref d j o e => obtain ⟨_, h⟩ := VRel.pshape hr; cases h
  | sref d j o l e f => obtain ⟨_, _, h, _⟩ := VRel.sshape hr; cases h
  | yield d j => obtain ⟨_, h⟩ := VRel.yshape hr; cases h
  | pcon cs o => simp only [VRel] at hr; obtain ⟨_, _, h, _⟩ := hr; cases h
  | scon cs o l f => simp only [VRel] at hr; rcases hr with ⟨_, _, _, _, h, _⟩ | ⟨_, h⟩ <;> cases h
  | func fn a b => simp only [VRel] at hr; obtain ⟨_, _, h, _⟩ := hr; cases h
  | iface t x => simp only [VRel] at hr; obtain ⟨_, h, _⟩ := hr; cases h
  | agg cs => simp only [VRel] at hr; obtain ⟨_, h, _⟩ := hr; cases h
  | tuple cs => simp only [VRel] at hr; obtain ⟨_, h, _⟩ := hr; cases h
  | mref d j => obtain ⟨_, h⟩ := VRel.mshape hr; cases h
  | _ => simp only [VRel] at hr; cases hr

theorem wanted_rel {ops : Array Oper} {tmps : List V} {l : Array Value} {o : Oper} {b : Bool} (hw : wantedV ops tmps o = some b) (ht : VRelL ok w B tmps l.toList) : Region.wanted o (yielded ops l) = b := by
  unfold wantedV at hw
  unfold Region.wanted
  split at hw
  · rename_i hg
    simp only [Option.some.injEq] at hw; subst hw
    simp [hg]
  · rename_i j want hg
    simp only [hg]
    unfold yielded
    have hlen := ht.length
    split at hw
    · rename_i b0 hb
      simp only [Option.some.injEq] at hw; subst hw
      simp only [Option.bind_eq_some_iff] at hb
      obtain ⟨d, hd, hb⟩ := hb
      obtain ⟨c, hc, hr⟩ := ht.get hb
      simp only [VRel] at hr; subst hr
      have : l[d]? = some (.bool b0) := by rw [← Array.getElem?_toList]; exact hc
      have h0 : ((ops[j]?).bind (·.dst)).bind (l[·]?) = some (.bool b0) := by
        obtain ⟨o', ho', hd'⟩ := hd
        simp [ho', hd', this]
      rw [h0]
      cases b0 <;> cases want <;> rfl
    · cases hw
    · rename_i x hx1 hx2
      simp only [Option.some.injEq] at hw; subst hw
      have h0 : ∀ b0, ((ops[j]?).bind (·.dst)).bind (l[·]?) ≠ some (.bool b0) := by
        intro b0 hb0
        obtain ⟨d, hd, hl⟩ := Option.bind_eq_some_iff.1 hb0
        have hl' : l.toList[d]? = some (.bool b0) := by rw [Array.getElem?_toList]; exact hl
        have hdl : d < tmps.length := by
          rcases Nat.lt_or_ge d tmps.length with h | h
          · exact h
          · rw [List.getElem?_eq_none (by omega)] at hl'; cases hl'
        obtain ⟨c, hc, hr⟩ := ht.get (List.getElem?_eq_getElem hdl)
        rw [hl'] at hc
        simp only [Option.some.injEq] at hc; subst hc
        have hv : ((ops[j]?).bind (·.dst)).bind (tmps[·]?) = some tmps[d] := by
          rw [hd]; simp [List.getElem?_eq_getElem hdl]
        have hnp : tmps[d] ≠ .poison := fun e => hx2 (by rw [hv, e])
        have hnb : ∀ b, tmps[d] ≠ .bool b := fun b e => hx1 b (by rw [hv, e])
        exact VRel.not_bool hr hnp hnb b0 rfl
      split
      · rename_i b0 hb0; exact absurd hb0 (h0 b0)
      · rfl

theorem ops_sound {E : Env} {rec : Rec} {m : Nat} (hS : Sound E.P p rec m) (hq : EqOk E) (hE : FnOk E p) (hK : KnownOk E p) (hKI : KnownIn E) {F : Fence} (hF : FW F) {ops : Array Oper} :
    ∀ (l : List Oper) (i : Nat) (s s' : St) (base : Base) (ok : Nat → Prop) (B : Bd) (w : World) (a : Act) (Q : Exit → Act → World → Prop), ops.toList.drop i = l → opsV E rec ops l s = some s' → SR p base s ok B w a →
      (∀ ok' B' w' a', Ext ok B w ok' B' w' → SR p base s' ok' B' w' a' → s'.heap.length = s.heap.length → Q .normal a' w') →
      wpOpsIn F 0 E.P ops Q (List.range' i l.length) a w
  | [], i, s, s', base, ok, B, w, a, Q, hl, he, hs, hQ => by
    simp only [opsV, Option.some.injEq] at he; subst he
    simp only [List.length_nil, List.range'_zero, wpOpsIn]
    exact hQ ok B w a (Ext.refl ok B w) hs rfl
  | o :: r, i, s, s', base, ok, B, w, a, Q, hl, he, hs, hQ => by
    have hi : ops[i]? = some o := by
      have : (ops.toList.drop i)[0]? = some o := by rw [hl]; rfl
      rw [List.getElem?_drop, Nat.add_zero, Array.getElem?_toList] at this
      exact this
    have hr : ops.toList.drop (i + 1) = r := by
      have : (ops.toList.drop i).drop 1 = r := by rw [hl]; rfl
      rwa [List.drop_drop] at this
    simp only [opsV, Option.bind_eq_some_iff] at he
    obtain ⟨b, hb, he⟩ := he
    have hw := wanted_rel (l := a.tmps) hb hs.tmps
    simp only [List.length_cons, List.range'_succ, wpOpsIn, hi, hw]
    cases b with
    | true =>
      simp only [if_true, Option.bind_eq_some_iff] at he ⊢
      obtain ⟨⟨v, h'⟩, hop, he⟩ := he
      refine oper_sound hS hq hE hK hKI hF hop hs.heap hs.tmps ?_
      intro ok' B' w' v' hA
      have hs' : SR p base { s with tmps := putT s.tmps o.dst v, heap := h' } ok' B' w' (a.put o.dst v') :=
        ⟨hA.heap, put_rel (hA.ext.vrelL hs.heap hs.tmps) o.dst hA.val, by rw [put_defers]; exact Marks.ext hs.marks hA.ext⟩
      refine ops_sound hS hq hE hK hKI hF r (i + 1) _ s' base ok' B' w' _ Q hr he hs' fun ok2 B2 w2 a2 hx2 hs2 hl2 => ?_
      exact hQ ok2 B2 w2 a2 (hA.ext.trans hx2) hs2 (hl2.trans hA.len)
    | false =>
      simp only [Bool.false_eq_true, if_false] at he ⊢
      refine ⟨fun f _ => hF.fn f, ?_⟩
      have hs' : SR p base { s with tmps := putT s.tmps o.dst V.undef } ok B w (a.put o.dst undef) :=
        ⟨hs.heap, put_rel hs.tmps o.dst (by simp only [V.undef, VRel]; exact ⟨[], rfl, rfl⟩), by rw [put_defers]; exact hs.marks⟩
      exact ops_sound hS hq hE hK hKI hF r (i + 1) _ s' base ok B w _ Q hr he hs' hQ

/-- The regions that draw their order. -/
def DrawOk (E : Env) (p : Array Oper → Bool) (rec : Rec) : Prop := ∀ id ops s s', regOkD E ops s'.tmps = true → opsV E rec ops ops.toList s = some s' →
  ∀ F base ok B w a Q, FW F → SR p base s ok B w a →
    (∀ ok' B' w' a', Ext ok B w ok' B' w' → SR p base s' ok' B' w' a' → s'.heap.length = s.heap.length → Q .normal a' w') → (Code.region id ops true).wpIn F 0 E.P Q a w

theorem good_label : ∀ (c : Code) (l : Nat) (rest : Code), goodCode p c = true → findLabel c l = some rest → goodCode p rest = true
  | .seq a b, l, rest, hg, hf => by
    simp only [goodCode, Bool.and_eq_true] at hg
    simp only [findLabel] at hf
    split at hf
    · rename_i r hr
      simp only [Option.some.injEq] at hf; subst hf
      simp only [goodCode, Bool.and_eq_true]
      exact ⟨good_label a l r hg.1 hr, hg.2⟩
    · exact good_label b l rest hg.2 hf
  | .label l', l, rest, hg, hf => by
    simp only [findLabel] at hf
    split at hf
    · simp only [Option.some.injEq] at hf; subst hf; rfl
    · cases hf
  | .skip, _, _, _, hf | .region _ _ _, _, _, _, hf | .cond _ _ _, _, _, _, hf | .block _ _, _, _, _, hf | .loop _, _, _, _, hf | .exit _, _, _, _, hf | .scope _, _, _, _, hf | .goto _, _, _, _, hf | .ret, _, _, _, hf
  | .refuse _, _, _, _, hf | .rangeFunc _ _ _ _, _, _, _, hf => by simp [findLabel] at hf

theorem forgets_rel : ∀ (hs : List Hint) (s : St) {l : List Value}, VRelL ok w B s.tmps l → VRelL ok w B (forgets hs s).tmps l ∧ (forgets hs s).heap = s.heap
  | [], s, l, h => ⟨h, rfl⟩
  | .forget i :: r, s, l, h => by
    have := forgets_rel r { s with tmps := s.tmps.set i .poison } (l := l) (h.set_of _ _ fun _ _ => by simp only [VRel])
    exact this
  | .canon i :: r, s, l, h => forgets_rel r s h
  | .promote i e :: r, s, l, h => forgets_rel r s h
  | .promoteBox i o e :: r, s, l, h => forgets_rel r s h
  | .promoteAll i o e :: r, s, l, h => forgets_rel r s h
  | .loose i :: r, s, l, h => forgets_rel r s h

theorem hints_rel : ∀ {hs : List Hint} {s s' : St} {B : Bd}, hintsV hs s = some s' → HR ok w B p s.heap → ∀ {l : List Value}, VRelL ok w B s.tmps l →
    ∃ B', Ext ok B w ok B' w ∧ HR ok w B' p s'.heap ∧ VRelL ok w B' s'.tmps l ∧ s'.heap.length = s.heap.length
  | [], s, s', B, he, hh, l, ht => by
    simp only [hintsV, Option.some.injEq] at he; subst he
    exact ⟨B, Ext.refl ok B w, hh, ht, rfl⟩
  | x :: r, s, s', B, he, hh, l, ht => by
    simp only [hintsV, Option.bind_eq_some_iff] at he
    obtain ⟨s1, h1, h2⟩ := he
    obtain ⟨B1, e1, e2, e3, e4, _⟩ := hint_rel h1 hh ht
    obtain ⟨B2, f1, f2, f3, f4⟩ := hints_rel h2 e2 e3
    exact ⟨B2, e1.trans f1, f2, f3, f4.trans e4⟩

theorem forgets_heap (hs : List Hint) (s : St) : (forgets hs s).heap = s.heap := by
  induction hs generalizing s with
  | nil => rfl
  | cons x r ih => cases x <;> simp [forgets, ih]

theorem SoundC.sub {P : Program} {c c' : Code} {s s1 s' : St} {e e1 : Exit} {F : Fence} {base : Base} {a : Act} {Q Q1 : Exit → Act → World → Prop} (hc : SoundC P p c s e s' F base ok B w a Q)
    (hg : goodCode p c' = true) (hn : noRange c = true → noRange c' = true)
    (hp : ∀ ok' B' w' a', Ext ok B w ok' B' w' → SR p base s1 ok' B' w' a' → s1.heap.length = s.heap.length → Q1 e1 a' w') : SoundC P p c' s e1 s1 F base ok B w a Q1 :=
  ⟨hg, hc.fence, fun h => hn (hc.rounds h), hc.st, hc.base_le, hp⟩

section
variable {E : Env} {rec : Rec} {m : Nat} (hS : Sound E.P p rec m) (hq : EqOk E) (hE : FnOk E p) (hK : KnownOk E p) (hKI : KnownIn E) (hD : DrawOk E p rec)
include hS hq hE hK hKI hD

/-- One round of a loop. -/
theorem loop_step {body : Code} {s s' : St} {e : Exit} (he : evStep E rec (.loop body) s = some (e, s')) {F : Fence} {base : Base} {a : Act} {Q : Exit → Act → World → Prop}
    (hc : SoundC E.P p (.loop body) s e s' F base ok B w a Q) : Code.roundsIn F 0 E.P body Q (m + 1) a w := by
  simp only [evStep, Option.bind_eq_some_iff] at he
  obtain ⟨s0, hh0, he⟩ := he
  obtain ⟨B0, hx0, hhr0, ht0, hl0⟩ := hints_rel hh0 hc.st.heap hc.st.tmps
  have hst0 : SR p base s0 ok B0 w a := ⟨hhr0, ht0, Marks.ext hc.st.marks hx0⟩
  rw [roundsIn_succ]
  have hgood : goodCode p body = true := by have := hc.good; simpa [goodCode] using this
  have hnr : (F.round ≠ none ∨ base.shut = true) → noRange body = true := fun h => by have := hc.rounds h; simpa [noRange] using this
  split at he
  · rename_i s1 hrec
    refine hS.code body s0 .normal s1 hrec F base ok B0 w a _ ⟨hgood, hc.fence, hnr, hst0, hc.base_le, ?_⟩
    intro ok1 B1 w1 a1 hx1 hs1 hl1
    simp only [Exit.then]
    have hfh := forgets_heap (E.hint s.fn ((firstRegion body).getD 0)) s1
    have hft := (forgets_rel (E.hint s.fn ((firstRegion body).getD 0)) s1 hs1.tmps).1
    have hh1 : HR ok1 w1 B1 p (forgets (E.hint s.fn ((firstRegion body).getD 0)) s1).heap := by rw [hfh]; exact hs1.heap
    obtain ⟨t1, t2, t3⟩ := trim_rel hh1 hft s0.heap.top.length
    have hxc := (hx1.cut (k := s0.heap.top.length) fun j hj => hhr0.top_lt hj)
    have hst2 : SR p base ((forgets (E.hint s.fn ((firstRegion body).getD 0)) s1).trim s0.heap.top.length) _ _ w1 a1 := ⟨t1, t2, Marks.cut hs1.marks _⟩
    refine hS.loop body _ e s' he F base _ _ w1 a1 Q ⟨hc.good, hc.fence, hc.rounds, hst2, Nat.le_trans hc.base_le hxc.size, ?_⟩
    intro ok2 B2 w2 a2 hx2 hs2 hl2
    refine hc.post ok2 B2 w2 a2 ((hx0.trans hxc).trans hx2) hs2 ?_
    rw [hl2, t3, hfh, hl1, hl0]
  · rename_i hne
    refine hS.code body s0 e s' he F base ok B0 w a _ ⟨hgood, hc.fence, hnr, hst0, hc.base_le, ?_⟩
    intro ok1 B1 w1 a1 hx1 hs1 hl1
    have hq' : Q e a1 w1 := hc.post ok1 B1 w1 a1 (hx0.trans hx1) hs1 (hl1.trans hl0)
    cases e with
    | normal => exact (hne s' he).elim
    | _ => exact hq'

/-- A range over a function. -/
theorem range_step {g : Operand} {ps : Array Tmp} {assign body : Code} {s s' : St} {e : Exit} (he : evStep E rec (.rangeFunc g ps assign body) s = some (e, s')) {F : Fence} {base : Base} {a : Act} {Q : Exit → Act → World → Prop}
    (hc : SoundC E.P p (.rangeFunc g ps assign body) s e s' F base ok B w a Q) : (Code.rangeFunc g ps assign body).wpIn F 0 E.P Q a w := by
  have hFw : F = Fence.wide := by
    rcases hc.fence with h | ⟨l, rfl⟩
    · exact h
    · have := hc.rounds (.inl (by simp [Fence.inRound])); simp [noRange] at this
  subst hFw
  have hshut : base.shut = true → False := fun h => by have := hc.rounds (.inr h); simp [noRange] at this
  simp only [evStep, Option.bind_eq_some_iff] at he
  obtain ⟨s0, hh0, ⟨r, h2⟩, hcall, he⟩ := he
  dsimp only at he
  obtain ⟨B0, hx0, hhr0, ht0, hl0⟩ := hints_rel hh0 hc.st.heap hc.st.tmps
  have hm0 := Marks.ext hc.st.marks hx0
  have hgood := hc.good
  simp only [goodCode, Bool.and_eq_true] at hgood
  obtain ⟨⟨⟨g1, g2⟩, g3⟩, g4⟩ := hgood
  split at hcall
  · rename_i f first captured hfe
    refine wpIn_rangeFunc fun fn _ => ?_
    -- the two blocks
    have hxA := Ext.allocNone hhr0 (.deferred (some []))
    have hhA := hhr0.allocNone (.deferred (some []))
    let L : Loop := { state := .ready, pending := none, fn, tmps := a.tmps, params := ps, assign, body, defers := w.heap.size }
    obtain ⟨hxL, hhL⟩ := push_blk hhA (.loop s0.fn s0.tmps ps.toList assign body true none) (.loop (w.heap.size + 1)) (.loop L) (fun b hb => by simp only [Ent.blk, Option.some.injEq] at hb; rw [← hb]; simp)
      ⟨_, _, _, _, _, _, _, L, rfl, by have := heap_push_new (w.alloc (.deferred (some []))) (.loop L); simpa using this, rfl, rfl, rfl, by
        rw [Bd.from_zero]
        have h1 := hxA.vrelL hhr0 ht0
        have hxP : Ext ok B0 (w.alloc (.deferred (some []))) ok (B0.put 0 s0.heap.top.length (.loop (w.heap.size + 1))) ((w.alloc (.deferred (some []))).alloc (.loop L)) :=
          Ext.alloc hhA 0 _ _ hhA.top_out (fun b hb => by simp only [Ent.blk, Option.some.injEq] at hb; rw [← hb]; simp) _
        exact hxP.vrelL hhA h1, ⟨g1, g3⟩, ⟨g2, g4⟩, .inl ⟨rfl, rfl, rfl, rfl⟩⟩
    have hxAL := hxA.trans hxL
    have hev := evalT_rel (hxAL.vrelL hhr0 ht0) g
    rw [hfe] at hev
    simp only [VRel] at hev
    obtain ⟨a', b', hfv, r1, r2⟩ := hev
    have hy : VRel ok ((w.alloc (.deferred (some []))).alloc (.loop L)) (B0.put 0 s0.heap.top.length (.loop (w.heap.size + 1))) (.yield 0 s0.heap.top.length) (.func (.yield (w.heap.size + 1)) #[] #[]) := by
      simp only [VRel, Bd.put_same]
    have hargs : VRelL ok ((w.alloc (.deferred (some []))).alloc (.loop L)) (B0.put 0 s0.heap.top.length (.loop (w.heap.size + 1))) (first ++ [.yield 0 s0.heap.top.length] ++ captured) (a' ++ [Value.func (.yield (w.heap.size + 1)) #[] #[]] ++ b') :=
      (r1.append (by simp only [VRelL]; exact ⟨_, _, rfl, hy, rfl⟩)).append r2
    have hent := (call_enters hE hKI hcall).run (a' ++ [Value.func (.yield (w.heap.size + 1)) #[] #[]] ++ b').toArray ((w.alloc (.deferred (some []))).alloc (.loop L))
    have hwr : w.heap.size < w.heap.size + 1 := Nat.lt_succ_self _
    refine ⟨w.heap.size + 1, [{ target := .collected w.heap.size, args := #[] }], (w.alloc (.deferred (some []))).alloc (.loop L), { target := .fn (.func f) b'.toArray, args := a'.toArray ++ #[Value.func (.yield (w.heap.size + 1)) #[] #[]] },
      (w.alloc (.deferred (some []))).alloc (.loop L), f, (a' ++ [Value.func (.yield (w.heap.size + 1)) #[] #[]] ++ b').toArray, (w.alloc (.deferred (some []))).alloc (.loop L), run_enterLoop_outer fn a.tmps ps assign body, ?_, fun _ _ => trivial, ?_, by simp [Fence.wide], ?_⟩
    · have hg' : a.eval g = .func (.func f) a'.toArray b'.toArray := hfv
      have h0 : resolve a.eval (rangeCall g (w.heap.size + 1)) 0 = Deferred.ofValue (a.eval g) #[Value.func (.yield (w.heap.size + 1)) #[] #[]] := by
        simp only [resolve, rangeCall]
        congr 1
        simp [Act.eval]
      rw [h0, hg']
      rfl
    · simp only [invoke]
      rw [← hent]
      congr 2
      apply Array.ext'
      simp
    · refine call_sound hS hE hK hcall ok _ _ _ _ hhL hargs ?_
      intro ok' B' w' v' hA
      have hxT := (hx0.trans hxAL).trans hA.ext
      -- the loop's record behind the call
      split at he
      · rename_i fn2 tmps2 ps2 a2 b2 ready pj hg2
        split at he
        · rename_i hrp
          have hB' : B' 0 s0.heap.top.length = .loop (w.heap.size + 1) := by
            have hen := hA.ext.ent 0 s0.heap.top.length
            rw [Bd.put_same] at hen
            rcases hen with hen | hen
            · have := hA.heap.blk 0 s0.heap.top.length
              rw [hen, hg2] at this; simp [BlkR] at this
            · exact hen
          obtain ⟨l2, L2, q1, q2, q3⟩ := hA.heap.loop hg2 (by rw [hB']; simp)
          rw [hB'] at q1
          simp only [Ent.loop.injEq] at q1; subst q1
          obtain ⟨_, _, _, _, _, _, q7⟩ := q3
          have hst : L2.state ≠ .busy ∧ L2.pending = pj ∧ ∀ c, pj = some c → goodCode p c = true := by
            rcases q7 with ⟨_, k2, k3, k4⟩ | ⟨k1, k2, k3⟩ | ⟨c, k1, k2, k3, k4, k5⟩
            · exact ⟨by rw [k3]; simp, by rw [k4, k2], by rw [k2]; simp⟩
            · subst k1 k2; simp at hrp
            · exact ⟨by rw [k3]; simp, by rw [k4, k2], by rw [k2]; rintro c' hc'; simp only [Option.some.injEq] at hc'; subst hc'; exact k5⟩
          -- the level is cut
          have ht2 : VRelL ok' w' B' s0.tmps a.tmps.toList := (hxAL.trans hA.ext).vrelL hhr0 ht0
          obtain ⟨t1, t2, t3⟩ := trim_rel (s := { s0 with heap := h2 }) hA.heap ht2 s0.heap.top.length
          have hxc : Ext ok B w (Cut ok' B' s0.heap.top.length) (B'.cut s0.heap.top.length) w' := by
            have h1 : Ext ok B0 w (Cut ok' B' s0.heap.top.length) (B'.cut s0.heap.top.length) w' := ((hxAL.trans hA.ext).cut (k := s0.heap.top.length) fun j hj => hhr0.top_lt hj)
            exact hx0.trans h1
          have hlu : ∀ d j, (B'.cut s0.heap.top.length d j).blk ≠ some (w.heap.size + 1) := by
            intro d j hb
            have hb' : (B' d j).blk = some (w.heap.size + 1) := by
              unfold Bd.cut at hb
              split at hb
              · simp [Ent.blk] at hb
              · exact hb
            obtain ⟨e1, e2⟩ := hA.heap.inj d j 0 s0.heap.top.length _ hb' (by rw [hB']; rfl)
            subst e1 e2
            unfold Bd.cut at hb
            rw [if_pos ⟨rfl, Nat.le_refl _⟩] at hb
            simp [Ent.blk] at hb
          have hlo : ¬ Cut ok' B' s0.heap.top.length (w.heap.size + 1) := by
            rintro (h | ⟨j, ep, esz, _, h⟩)
            · exact (hA.heap.okn _ h).2 0 s0.heap.top.length (by rw [hB']; rfl)
            · obtain ⟨_, e2⟩ := hA.heap.inj 0 j 0 s0.heap.top.length (w.heap.size + 1) (by rw [h]; rfl) (by rw [hB']; rfl)
              subst e2
              rw [hB'] at h; cases h
          have k1 : ∀ b, Cut ok' B' s0.heap.top.length b → (w'.putObj (w.heap.size + 1) (.loop { L2 with state := .exhausted })).heap[b]? = w'.heap[b]? :=
            fun b hb => World.putObj_heap_other fun e => hlo (e ▸ hb)
          have k2 : ∀ d j b, (B'.cut s0.heap.top.length d j).blk = some b → (w'.putObj (w.heap.size + 1) (.loop { L2 with state := .exhausted })).heap[b]? = w'.heap[b]? :=
            fun d j b hb => World.putObj_heap_other fun e => hlu d j (e ▸ hb)
          have hxF := hxc.putObj (r := w.heap.size + 1) (o := .loop { L2 with state := .exhausted }) (by omega) hlu
          have hhF := t1.world (w' := w'.putObj (w.heap.size + 1) (.loop { L2 with state := .exhausted })) (by rw [World.putObj_size]; exact Nat.le_refl _) k1 k2
          have htF := t2.world k1 k2
          -- the mark
          have hmF : Marks base (Cut ok' B' s0.heap.top.length) (B'.cut s0.heap.top.length) (w'.putObj (w.heap.size + 1) (.loop { L2 with state := .exhausted })) ([{ target := .collected w.heap.size, args := #[] }] ++ a.defers) := by
            obtain ⟨rs, m1, m2, mr, _, m3⟩ := Marks.ext_bound hc.st.marks hxF
            have hne : ∀ r ∈ lefts rs, r < w.heap.size := fun r hr => (m3 r hr).1
            have hnew : ∀ d j, (B0 d j).blk ≠ some w.heap.size := fun d j hb => by have := hhr0.lt d j _ hb; omega
            have hput : ∀ d j, ((B0.put 0 s0.heap.top.length (.loop (w.heap.size + 1))) d j).blk ≠ some w.heap.size := by
              intro d j hb
              by_cases hq' : d = 0 ∧ j = s0.heap.top.length
              · obtain ⟨rfl, rfl⟩ := hq'
                rw [Bd.put_same] at hb
                simp [Ent.blk] at hb
              · rw [Bd.put_other B0 _ hq'] at hb; exact hnew d j hb
            have hAL : ((w.alloc (.deferred (some []))).alloc (.loop L)).heap[w.heap.size]? = some (.deferred (some [])) := by
              rw [heap_push_lt _ _ (by simp), heap_push_new]
            have hB'n : ∀ d j, (B' d j).blk ≠ some w.heap.size := fun d j hb => hput d j (hA.ext.new d j _ hb (by simp; omega))
            have hok'n : ¬ ok' w.heap.size := fun h => by
              have := (hA.ext.okEq w.heap.size (by simp; omega)).1 h
              have := (hhr0.okn _ this).1
              omega
            refine ⟨.inl w.heap.size :: rs, List.nodup_cons.2 ⟨fun h => by have := hne _ h; omega, m1⟩, by rw [m2]; rfl, mr, fun h => (hshut h).elim, fun r hr => ?_⟩
            rcases List.mem_cons.1 hr with rfl | hr
            · refine ⟨hc.base_le, ?_, fun d j hb => ?_, ?_⟩
              · rw [World.putObj_heap_other (by omega), hA.ext.same _ (by simp; omega) hput]; exact hAL
              · unfold Bd.cut at hb
                split at hb
                · simp [Ent.blk] at hb
                · exact hB'n d j hb
              · rintro (h | ⟨j, ep, esz, _, h⟩)
                · exact hok'n h
                · exact hB'n 0 j (by rw [h]; rfl)
            · exact (m3 r hr).2
          have hend := run_endLoop (P := E.P) q2 hst.1
          refine ⟨L2.pending, _, hend, ?_⟩
          have hsr : SR p base (St.trim s0.heap.top.length { s0 with heap := h2 }) _ _ (w'.putObj (w.heap.size + 1) (.loop { L2 with state := .exhausted })) { a with defers := [{ target := .collected w.heap.size, args := #[] }] ++ a.defers } :=
            ⟨hhF, htF, hmF⟩
          have hlen : (St.trim s0.heap.top.length { s0 with heap := h2 }).heap.length = s.heap.length := by
            rw [t3]
            simp only [hA.len, Heap.length_push, hl0]
          have hpend := hst.2.1
          have hgp := hst.2.2
          generalize w'.putObj (w.heap.size + 1) (.loop { L2 with state := .exhausted }) = wF at hsr hxF ⊢
          rw [hpend]
          cases pj with
          | none =>
            simp only [Option.some.injEq, Prod.mk.injEq] at he
            obtain ⟨rfl, rfl⟩ := he
            exact hc.post _ _ _ _ hxF hsr hlen
          | some c =>
            refine hS.code c _ e s' he Fence.wide base _ _ _ _ Q ⟨hgp c rfl, .inl rfl, (fun h => by rcases h with h | h; exact absurd rfl h; exact (hshut h).elim), hsr, Nat.le_trans hc.base_le hxF.size, ?_⟩
            intro ok2 B2 w2 a2 hx2 hs2 hl2
            exact hc.post ok2 B2 w2 a2 (hxF.trans hx2) hs2 (hl2.trans hlen)
        · cases he
      · cases he
  · cases hcall

theorem ev_step : Sound E.P p (evStep E rec) (m + 1) := by
  constructor
  · intro c s e s' he F base ok B w a Q hc
    cases c with
    | skip =>
      simp only [evStep, Option.some.injEq, Prod.mk.injEq] at he
      obtain ⟨rfl, rfl⟩ := he
      exact wpIn_skip (hc.post ok B w a (Ext.refl ok B w) hc.st rfl)
    | region id ops draw =>
      simp only [evStep, Option.bind_eq_some_iff] at he
      obtain ⟨s1, he, he1⟩ := he
      split at he1
      · cases he1
      · rename_i hok
        simp only [Option.some.injEq, Prod.mk.injEq] at he1
        obtain ⟨rfl, rfl⟩ := he1
        cases draw with
        | false =>
          refine wpIn_region ?_
          rw [List.range_eq_range']
          have := ops_sound hS hq hE hK hKI hc.fence (ops := ops) ops.toList 0 s s1 base ok B w a Q (by simp) he hc.st hc.post
          simpa using this
        | true => exact hD id ops s s1 (by simpa using hok) he F base ok B w a Q hc.fence hc.st hc.post
    | seq x y =>
      have hg := hc.good
      simp only [goodCode, Bool.and_eq_true] at hg
      have hn : ∀ z, (z = x ∨ z = y) → noRange (.seq x y) = true → noRange z = true := by
        intro z hz h; simp only [noRange, Bool.and_eq_true] at h; rcases hz with rfl | rfl; exact h.1; exact h.2
      simp only [evStep] at he
      refine wpIn_seq ?_
      split at he
      · rename_i s1 h1
        refine hS.code x s .normal s1 h1 F base ok B w a _ (hc.sub hg.1 (hn x (.inl rfl)) ?_)
        intro ok1 B1 w1 a1 hx1 hs1 hl1
        refine hS.code y s1 e s' he F base ok1 B1 w1 a1 Q ⟨hg.2, hc.fence, fun h => hn y (.inr rfl) (hc.rounds h), hs1, Nat.le_trans hc.base_le hx1.size, ?_⟩
        intro ok2 B2 w2 a2 hx2 hs2 hl2
        exact hc.post ok2 B2 w2 a2 (hx1.trans hx2) hs2 (hl2.trans hl1)
      · rename_i hne
        refine hS.code x s e s' he F base ok B w a _ (hc.sub hg.1 (hn x (.inl rfl)) ?_)
        intro ok1 B1 w1 a1 hx1 hs1 hl1
        have := hc.post ok1 B1 w1 a1 hx1 hs1 hl1
        cases e with
        | normal => exact (hne s' he).elim
        | _ => exact this
    | cond x y z =>
      have hg := hc.good
      simp only [goodCode, Bool.and_eq_true] at hg
      simp only [evStep] at he
      split at he
      · rename_i t ht
        have hev := evalT_rel hc.st.tmps x
        rw [ht] at hev
        simp only [VRel] at hev
        refine wpIn_cond hev ?_
        refine hS.code _ s e s' he F base ok B w a Q (hc.sub (by cases t; exact hg.2; exact hg.1) (fun h => by simp only [noRange, Bool.and_eq_true] at h; cases t; exact h.2; exact h.1) hc.post)
      · cases he
    | block id c =>
      have hg := hc.good
      simp only [goodCode] at hg
      simp only [evStep] at he
      refine wpIn_block ?_
      have hn : noRange (.block id c) = true → noRange c = true := fun h => by simpa [noRange] using h
      split at he
      · rename_i i s1 h1
        refine hS.code c s (.exit i) s1 h1 F base ok B w a _ (hc.sub hg hn ?_)
        intro ok1 B1 w1 a1 hx1 hs1 hl1
        simp only [Exit.inBlock]
        split at he
        · rename_i hi
          simp only [Option.some.injEq, Prod.mk.injEq] at he
          obtain ⟨rfl, rfl⟩ := he
          rw [if_pos hi]; exact hc.post ok1 B1 w1 a1 hx1 hs1 hl1
        · rename_i hi
          simp only [Option.some.injEq, Prod.mk.injEq] at he
          obtain ⟨rfl, rfl⟩ := he
          rw [if_neg hi]; exact hc.post ok1 B1 w1 a1 hx1 hs1 hl1
      · rename_i hne
        refine hS.code c s e s' he F base ok B w a _ (hc.sub hg hn ?_)
        intro ok1 B1 w1 a1 hx1 hs1 hl1
        have := hc.post ok1 B1 w1 a1 hx1 hs1 hl1
        cases e with
        | exit i => exact (hne i s' he).elim
        | _ => exact this
    | loop body => exact wpIn_loop_rounds (m + 1) (loop_step hS hq hE hK hKI hD he hc)
    | rangeFunc g ps assign body => exact range_step hS hq hE hK hKI hD he hc
    | exit id =>
      simp only [evStep, Option.some.injEq, Prod.mk.injEq] at he
      obtain ⟨rfl, rfl⟩ := he
      exact wpIn_exit (hc.post ok B w a (Ext.refl ok B w) hc.st rfl)
    | scope c =>
      have hFw : F = Fence.wide := by
        rcases hc.fence with h | ⟨l, rfl⟩
        · exact h
        · have := hc.rounds (.inl (by simp [Fence.inRound])); simp [noRange] at this
      subst hFw
      have hg := hc.good
      simp only [goodCode] at hg
      simp only [evStep] at he
      rw [wpIn_wide]
      split at he
      · rename_i l s1 h1
        split at he
        · rename_i rest hfl
          refine wp_scope_jumps l (fun a w => rest.wp E.P (Exit.noGoto Q) a w) (fun _ _ => 0) hfl ?_ ?_
          · rw [← wpIn_wide (n := 0)]
            refine hS.code c s (.goto l) s1 h1 Fence.wide base ok B w a _ ⟨hg, .inl rfl, (fun h => by rcases h with h | h; exact absurd rfl h; have := hc.rounds (.inr h); simp [noRange] at this), hc.st, hc.base_le, ?_⟩
            intro ok1 B1 w1 a1 hx1 hs1 hl1
            refine ⟨rfl, ?_⟩
            show rest.wp E.P (Exit.noGoto Q) a1 w1
            rw [← wpIn_wide (n := 0)]
            have hgr : goodCode p rest = true := good_label c l rest hg hfl
            split at he
            · cases he
            · rename_i hne
              refine hS.code rest s1 e s' he Fence.wide base ok1 B1 w1 a1 _ ⟨hgr, .inl rfl, (fun h => by rcases h with h | h; exact absurd rfl h; have := hc.rounds (.inr h); simp [noRange] at this), hs1, Nat.le_trans hc.base_le hx1.size, ?_⟩
              intro ok2 B2 w2 a2 hx2 hs2 hl2
              have := hc.post ok2 B2 w2 a2 (hx1.trans hx2) hs2 (hl2.trans hl1)
              cases e with
              | goto l' => exact (hne l' s' he).elim
              | _ => exact this
          · intro a1 w1 hJ
            refine wp_mono hJ fun e a w h => ?_
            cases e <;> first | exact h | exact h.elim
        · cases he
      · rename_i hne
        refine wp_scope_straight ?_
        rw [← wpIn_wide (n := 0)]
        refine hS.code c s e s' he Fence.wide base ok B w a _ ⟨hg, .inl rfl, (fun h => by rcases h with h | h; exact absurd rfl h; have := hc.rounds (.inr h); simp [noRange] at this), hc.st, hc.base_le, ?_⟩
        intro ok1 B1 w1 a1 hx1 hs1 hl1
        have := hc.post ok1 B1 w1 a1 hx1 hs1 hl1
        cases e with
        | goto l' => exact (hne l' s' he).elim
        | _ => exact this
    | label l =>
      simp only [evStep, Option.some.injEq, Prod.mk.injEq] at he
      obtain ⟨rfl, rfl⟩ := he
      exact wpIn_label (hc.post ok B w a (Ext.refl ok B w) hc.st rfl)
    | goto l =>
      simp only [evStep, Option.some.injEq, Prod.mk.injEq] at he
      obtain ⟨rfl, rfl⟩ := he
      exact wpIn_goto (hc.post ok B w a (Ext.refl ok B w) hc.st rfl)
    | ret =>
      simp only [evStep, Option.some.injEq, Prod.mk.injEq] at he
      obtain ⟨rfl, rfl⟩ := he
      exact wpIn_ret (hc.post ok B w a (Ext.refl ok B w) hc.st rfl)
    | refuse _ => simp [evStep] at he
  · intro c s e s' he F base ok B w a Q hc
    exact loop_step hS hq hE hK hKI hD he hc
end
end
end Go.Sim
end
section
namespace Go.Sim
open Go
set_option linter.unusedVariables false
set_option linter.unusedSimpArgs false

/-- All that the one heap tells the other tells too. -/
def Above (h H : Heap) : Prop := ∀ d j b, h.get d j = some b → H.get d j = some b
theorem Above.refl (h : Heap) : Above h h := fun _ _ _ h => h
theorem Above.trans {a b c : Heap} (h1 : Above a b) (h2 : Above b c) : Above a c := fun d j x h => h2 d j x (h1 d j x h)
theorem Above.push {h : Heap} (hp : 0 < h.length) (b : Blk) : Above h (h.push b) := by
  intro d j x hx
  rw [Heap.get_push hp]
  by_cases hq : d = 0 ∧ j = h.top.length
  · obtain ⟨rfl, rfl⟩ := hq
    rw [Heap.get_top hp, List.getElem?_eq_none (Nat.le_refl _)] at hx; cases hx
  · rw [if_neg hq]; exact hx

section
variable {E : Env} {h H : Heap} {ρ : Operand → V}

theorem load_above {a : V} {n : Nat} {l : List V} (ha : Above h H) (hl : h.load a n = some l) : H.load a n = some l := by
  unfold Heap.load at hl ⊢
  split at hl
  · rename_i d j off ep
    split at hl
    · rename_i cells ep' esz flat plain hg
      simp only [ha _ _ _ hg]; exact hl
    · cases hl
  · exact hl
  · cases hl
theorem sliceCells_above {s : V} {k n : Nat} {l : List V} (ha : Above h H) (hl : h.sliceCells s k n = some l) : H.sliceCells s k n = some l := by
  unfold Heap.sliceCells at hl ⊢
  split at hl
  · exact hl
  · rename_i d j off len ep q
    split at hl
    · rename_i cells ep' esz flat plain hg
      simp only [ha _ _ _ hg]; exact hl
    · cases hl
  · exact hl
  · cases hl
theorem loadV_above {P : Program} {t : TypeId} {a v : V} (ha : Above h H) (hl : loadV P h t a = some v) : loadV P H t a = some v := by
  simp only [loadV, Option.bind_eq_some_iff] at hl ⊢
  obtain ⟨g, hg, hl⟩ := hl
  refine ⟨g, hg, ?_⟩
  split at hl
  · rename_i ht
    rw [if_pos ht]
    simp only [Option.bind_eq_some_iff, Option.map_eq_some_iff] at hl ⊢
    obtain ⟨n, hn, l, hl, rfl⟩ := hl
    exact ⟨n, hn, l, load_above ha hl, rfl⟩
  · rename_i ht
    rw [if_neg ht]
    simp only [Option.bind_eq_some_iff] at hl ⊢
    obtain ⟨l, hl, hv⟩ := hl
    exact ⟨l, load_above ha hl, hv⟩

theorem conv_int {P : Program} {src dst : TypeId} {k : IntKind} (hd : P.underlying dst = some (.int k)) {x v : V} {h' : Heap} (hc : convertV P h src dst x = some (v, h')) : h' = h ∧ ∀ H, convertV P H src dst x = some (v, H) := by
  unfold convertV at hc ⊢
  rw [hd] at hc ⊢
  split at hc
  · rename_i d k' kk n hs hd'
    simp only [Option.some.injEq, Prod.mk.injEq] at hc
    obtain ⟨rfl, rfl⟩ := hc
    refine ⟨rfl, fun H => ?_⟩
    simp only [hs]
  all_goals first | (rename_i hd'; cases hd'; done) | (rename_i _ hd'; cases hd'; done) | cases hc | simp_all
theorem conv_string {P : Program} {src dst : TypeId} (hs0 : P.underlying src = some .string) (hd : P.underlying dst = some .string) {x v : V} {h' : Heap} (hc : convertV P h src dst x = some (v, h')) : h' = h ∧ ∀ H, convertV P H src dst x = some (v, H) := by
  unfold convertV at hc ⊢
  rw [hd, hs0] at hc ⊢
  cases x <;> simp at hc
  obtain ⟨rfl, rfl⟩ := hc
  exact ⟨rfl, fun H => rfl⟩
theorem convertV_bytes {P : Program} {src dst e : TypeId} (hs0 : P.underlying src = some (.slice e)) (hd : P.underlying dst = some .string) {x : V} (hx : ∀ s, x ≠ .str s) (h : Heap) :
    convertV P h src dst x = (match P.underlying e with
      | some (.int .u8) => (lenV x).bind fun n => (h.sliceCells x 1 n).bind fun cs => if cs.all isByte then some (V.str (cs.map byteOf), h) else none
      | _ => none) := by
  unfold convertV
  rw [hs0, hd]
  cases x <;> first | rfl | exact absurd rfl (hx _)
theorem conv_bytes {P : Program} {src dst e : TypeId} (hs0 : P.underlying src = some (.slice e)) (hd : P.underlying dst = some .string) {x v : V} {h' : Heap} (hc : convertV P h src dst x = some (v, h')) : h' = h ∧ ∀ H, Above h H → convertV P H src dst x = some (v, H) := by
  by_cases hx : ∃ s, x = .str s
  · obtain ⟨s, rfl⟩ := hx
    unfold convertV at hc ⊢
    rw [hd, hs0] at hc ⊢
    simp at hc
    obtain ⟨rfl, rfl⟩ := hc
    exact ⟨rfl, fun H _ => rfl⟩
  · have hx' : ∀ s, x ≠ .str s := fun s e => hx ⟨s, e⟩
    rw [convertV_bytes hs0 hd hx'] at hc
    split at hc
    · rename_i hu
      simp only [Option.bind_eq_some_iff] at hc
      obtain ⟨n, hn, cs, hcs, hc⟩ := hc
      split at hc
      · rename_i hall
        simp only [Option.some.injEq, Prod.mk.injEq] at hc
        obtain ⟨rfl, rfl⟩ := hc
        refine ⟨rfl, fun H hA => ?_⟩
        rw [convertV_bytes hs0 hd hx', hu]
        simp only [hn, Option.bind_some, sliceCells_above hA hcs, hall, if_true]
      · cases hc
    · cases hc

theorem convertV_str {P : Program} {src dst e : TypeId} (hs0 : P.underlying src = some .string) (hd : P.underlying dst = some (.slice e)) {x : V} (h : Heap) :
    convertV P h src dst x = (match x with
      | .str s => (match P.underlying e with
        | some (.int .u8) => some (.sref 0 h.top.length 0 s.length 0 (1, false), (newRow h (s.map u8) 1).2)
        | _ => none)
      | _ => none) := by
  unfold convertV
  rw [hs0, hd]
  cases x <;> rfl

theorem op_n {o : Op} {v : V} {h' : Heap} (hk : kindOf E.P o = .n) (hop : opV E ρ h o = some (v, h')) : h' = h ∧ ∀ H, opV E ρ H o = some (v, H) := by
  unfold opV at hop ⊢
  split at hop
  all_goals try (simp [kindOf] at hk; done)
  all_goals try
    (simp only [Option.map_eq_some_iff, Prod.mk.injEq] at hop
     obtain ⟨v', hv, rfl, rfl⟩ := hop
     exact ⟨rfl, fun H => by simp only [hv]; rfl⟩)
  all_goals try
    (simp only [Option.some.injEq, Prod.mk.injEq] at hop
     obtain ⟨rfl, rfl⟩ := hop
     exact ⟨rfl, fun H => rfl⟩)
  · rename_i c a b
    split at hop
    · rename_i t ht
      simp only [Option.some.injEq, Prod.mk.injEq] at hop
      obtain ⟨rfl, rfl⟩ := hop
      exact ⟨rfl, fun H => by simp only [ht]⟩
    · cases hop
  · rename_i src dst x
    simp only [kindOf] at hk
    split at hk
    · rename_i hd; exact conv_int hd hop
    · rename_i hs hd; exact conv_string hs hd hop
    · cases hk
    · cases hk
    · cases hk
  · rename_i t x
    split at hop
    · cases hop
    · rename_i d hni hu
      simp only [Option.some.injEq, Prod.mk.injEq] at hop
      obtain ⟨rfl, rfl⟩ := hop
      refine ⟨rfl, fun H => ?_⟩
      cases d <;> first | exact absurd rfl (hni _) | simp only [hu]
    · cases hop
  · rename_i t i
    split at hop
    · rename_i vs hvs
      simp only [Option.map_eq_some_iff, Prod.mk.injEq] at hop
      obtain ⟨v', hv, rfl, rfl⟩ := hop
      exact ⟨rfl, fun H => by simp only [hvs, hv]; rfl⟩
    · cases hop
  · rename_i b args ts
    unfold builtinV at hop ⊢
    split at hop
    · simp [kindOf] at hk
    · simp [kindOf] at hk
    · simp only [Option.map_eq_some_iff, Prod.mk.injEq] at hop
      obtain ⟨v', hv, rfl, rfl⟩ := hop
      exact ⟨rfl, fun H => by simp only [hv]; rfl⟩
    · simp only [Option.map_eq_some_iff, Prod.mk.injEq] at hop
      obtain ⟨v', hv, rfl, rfl⟩ := hop
      exact ⟨rfl, fun H => by simp only [hv]; rfl⟩
    · simp [kindOf] at hk
    · simp only [Option.map_eq_some_iff, Prod.mk.injEq] at hop
      obtain ⟨v', hv, rfl, rfl⟩ := hop
      exact ⟨rfl, fun H => by simp only [hv]; rfl⟩
    · simp only [Option.map_eq_some_iff, Prod.mk.injEq] at hop
      obtain ⟨v', hv, rfl, rfl⟩ := hop
      exact ⟨rfl, fun H => by simp only [hv]; rfl⟩
    · cases hop
  · cases hop

theorem op_r {o : Op} {v : V} {h' : Heap} (hk : kindOf E.P o = .r) (hop : opV E ρ h o = some (v, h')) : h' = h ∧ ∀ H, Above h H → opV E ρ H o = some (v, H) := by
  unfold opV at hop ⊢
  split at hop
  all_goals try (simp [kindOf] at hk; done)
  · rename_i t a
    simp only [Option.map_eq_some_iff, Prod.mk.injEq] at hop
    obtain ⟨v', hv, rfl, rfl⟩ := hop
    exact ⟨rfl, fun H hA => by simp only [loadV_above hA hv]; rfl⟩
  · rename_i src dst x
    simp only [kindOf] at hk
    split at hk
    · cases hk
    · cases hk
    · rename_i e hs hd; exact conv_bytes hs hd hop
    · cases hk
    · cases hk
  · rename_i b args ts
    cases b <;> simp [kindOf] at hk
  · cases hop

/-- The block an operation of kind a makes, and what it gives by the block's place. -/
theorem op_a {o : Oper} {v : V} {h' : Heap} (hk : kindOf E.P o.op = .a) (hop : opV E ρ h o.op = some (v, h')) :
    ∃ (vf : Nat → V) (blk : Blk), v = vf h.top.length ∧ h' = h.push blk ∧ ∀ (p : Array Oper → Bool) (ok : Nat → Prop) (B : Bd) (w : World) (ρ' : Operand → Value), (∀ x, VRel ok w B (ρ x) (ρ' x)) →
      ∃ s : Sem Value, execOp ρ' o = (do pure (.value (← s))) ∧ AllocAt ok B p E.P w s vf blk := by
  unfold opV at hop
  split at hop
  all_goals try (rename_i heq; rw [heq] at hk; simp [kindOf] at hk; done)
  · rename_i op elem heq
    simp only [Option.bind_eq_some_iff] at hop
    obtain ⟨z, hz, hop⟩ := hop
    split at hop
    · rename_i hok
      simp only [Option.some.injEq, Prod.mk.injEq] at hop
      obtain ⟨rfl, rfl⟩ := hop
      exact ⟨fun j => .pref 0 j 0 0, rowOf z.cells z.cells.length, rfl, rfl, fun p ok B w ρ' hρ => ⟨Instr.alloc elem true (.tuple #[]), by simp only [execOp, heq], alloc_rel hz hok⟩⟩
    · cases hop
  · rename_i op ty x heq
    split at hop
    · rename_i hok
      simp only [Option.some.injEq, Prod.mk.injEq] at hop
      obtain ⟨rfl, rfl⟩ := hop
      exact ⟨fun j => .pref 0 j 0 0, rowOf (ρ x).cells (ρ x).cells.length, rfl, rfl, fun p ok B w ρ' hρ => ⟨Instr.box ty (ρ' x), by simp only [execOp, heq], box_rel ty hok (hρ x)⟩⟩
    · cases hop
  · rename_i op t len parts heq
    split at hop
    · rename_i elem hu
      simp only [Option.bind_eq_some_iff] at hop
      obtain ⟨k, hk, z, hz, hop⟩ := hop
      split at hop
      · rename_i hc
        simp only [Option.bind_eq_some_iff] at hop
        obtain ⟨cells, hcl, hop⟩ := hop
        split at hop
        · simp only [Option.some.injEq, Prod.mk.injEq] at hop
          obtain ⟨rfl, rfl⟩ := hop
          exact ⟨fun j => .sref 0 j 0 len 0 (k, true), rowOf cells k, rfl, rfl, fun p ok B w ρ' hρ => ⟨Instr.buildSlice t len (parts.map fun (i, x) => (i, ρ' x)), by simp only [execOp, heq],
            buildSlice_rel hu hk hz hc.1 hc.2.1 hc.2.2 hcl (by rw [Array.toList_map]; exact partsRel hρ parts.toList)⟩⟩
        · cases hop
      · cases hop
    · cases hop
  · rename_i op src dst x heq
    rw [heq] at hk
    simp only [kindOf] at hk
    split at hk
    · cases hk
    · cases hk
    · cases hk
    · rename_i e hs hd
      rw [convertV_str hs hd] at hop
      split at hop
      · rename_i s hx
        split at hop
        · rename_i he
          simp only [Option.some.injEq, Prod.mk.injEq] at hop
          obtain ⟨rfl, rfl⟩ := hop
          refine ⟨fun j => .sref 0 j 0 s.length 0 (1, false), rowOf (s.map u8) 1, rfl, rfl, fun p ok B w ρ' hρ => ⟨convert src dst (ρ' x), by simp only [execOp, heq], ?_⟩⟩
          have hv := hρ x
          rw [hx] at hv
          simp only [VRel] at hv
          have hc : convert src dst (ρ' x) = convert src dst (.string ⟨s.toArray⟩) := by rw [hv]
          intro H j hh hout hg
          obtain ⟨c, w', B', h1, h2⟩ := strBytes_rel (P := E.P) e s H j hh hout hg
          refine ⟨c, w', B', ?_, h2⟩
          rw [hc]
          simp [convert, r_under hs, r_under hd, r_under he, h1]
        · cases hop
      · cases hop
    · cases hk
  · rename_i op t l c heq
    obtain ⟨vf, blk, h1, h2, hA⟩ := makeSlice_rel hop
    exact ⟨vf, blk, h1, h2, fun p ok B w ρ' hρ => ⟨Instr.makeSlice t (ρ' l) (ρ' c), by simp only [execOp, heq], hA ok B p w _ _ (hρ l) (hρ c)⟩⟩
  · rename_i op b args ts heq
    rw [heq] at hk
    cases b <;> simp [kindOf] at hk
  · cases hop

/-- An operation that leaves the world as it is. -/
def PureR (ok : Nat → Prop) (B : Bd) (P : Program) (w : World) (s : Sem Next) (v : V) : Prop := ∃ n c, s.run P w = .ok n w ∧ Gives n c ∧ VRel ok w B v c
theorem PureR.of {P : Program} {w : World} {ok : Nat → Prop} {B : Bd} {s : Sem Value} {v : V} (hs : ∃ c, s.run P w = .ok c w ∧ VRel ok w B v c) : PureR ok B P w (do pure (.value (← s))) v := by
  obtain ⟨c, h1, h2⟩ := hs
  exact ⟨.value c, c, by simp [h1], .inl rfl, h2⟩

theorem op_pure {w : World} {ok : Nat → Prop} {B : Bd} {p : Array Oper → Bool} (hq : EqOk E) (hh : HR ok w B p h) {ρ' : Operand → Value} (hρ : ∀ x, VRel ok w B (ρ x) (ρ' x)) {o : Oper} {v : V} {h' : Heap}
    (hk : kindOf E.P o.op = .n ∨ kindOf E.P o.op = .r) (hop : opV E ρ h o.op = some (v, h')) : PureR ok B E.P w (execOp ρ' o) v := by
  unfold opV at hop
  split at hop
  all_goals try (rename_i heq; rw [heq] at hk; simp [kindOf] at hk; done)
  · rename_i op x heq
    simp only [Option.some.injEq, Prod.mk.injEq] at hop
    obtain ⟨rfl, rfl⟩ := hop
    exact ⟨.value (ρ' x), ρ' x, by simp [execOp, heq], .inl rfl, hρ x⟩
  · rename_i op x heq
    simp only [Option.some.injEq, Prod.mk.injEq] at hop
    obtain ⟨rfl, rfl⟩ := hop
    exact ⟨.value (ρ' x), ρ' x, by simp [execOp, heq], .inl rfl, hρ x⟩
  · rename_i op c a b heq
    split at hop
    · rename_i t ht
      simp only [Option.some.injEq, Prod.mk.injEq] at hop
      obtain ⟨rfl, rfl⟩ := hop
      have hc := hρ c
      rw [ht] at hc
      simp only [VRel] at hc
      cases t with
      | true => exact ⟨.value (ρ' a), ρ' a, by simp [execOp, heq, hc, asBool], .inl rfl, hρ a⟩
      | false => exact ⟨.value (ρ' b), ρ' b, by simp [execOp, heq, hc, asBool], .inl rfl, hρ b⟩
    · cases hop
  · rename_i op t parts heq
    simp only [Option.map_eq_some_iff, Prod.mk.injEq] at hop
    obtain ⟨v', hv, rfl, rfl⟩ := hop
    have : execOp ρ' o = (do pure (.value (← Instr.build t (parts.map fun (i, x) => (i, ρ' x))))) := by simp only [execOp, heq]
    rw [this]
    exact PureR.of (build_rel hv (by rw [Array.toList_map]; exact partsRel hρ parts.toList))
  · rename_i op t a heq
    simp only [Option.map_eq_some_iff, Prod.mk.injEq] at hop
    obtain ⟨v', hv, rfl, rfl⟩ := hop
    have : execOp ρ' o = (do pure (.value (← Instr.loadAt t (ρ' a)))) := by simp only [execOp, heq]
    rw [this]
    exact PureR.of (loadV_rel hh hv (hρ a))
  · rename_i op x heq
    simp only [Option.map_eq_some_iff, Prod.mk.injEq] at hop
    obtain ⟨v', hv, rfl, rfl⟩ := hop
    have hr := nilCheck_rel hv (hρ x)
    refine ⟨.value (ρ' x), ρ' x, ?_, .inl rfl, hr⟩
    have hx := hρ x
    simp only [execOp, heq]
    unfold nilCheckV at hv
    split at hv
    · rename_i d j oo ep hxe
      rw [hxe] at hx
      obtain ⟨a, ha⟩ := VRel.pshape hx
      simp [ha]
    · rename_i cs oo hxe
      rw [hxe] at hx
      simp only [VRel] at hx
      obtain ⟨b, base, ha, _⟩ := hx
      simp [ha]
    · rename_i f a b hxe
      rw [hxe] at hx
      simp only [VRel] at hx
      obtain ⟨a', b', ha, _⟩ := hx
      simp [ha]
    · rename_i d j hxe
      rw [hxe] at hx
      obtain ⟨a, ha⟩ := VRel.yshape hx
      simp [ha]
    · rename_i t x' hxe
      rw [hxe] at hx
      simp only [VRel] at hx
      obtain ⟨a, ha, _⟩ := hx
      simp [ha]
    · cases hv
  · rename_i op bop t x y n heq
    simp only [Option.map_eq_some_iff, Prod.mk.injEq] at hop
    obtain ⟨v', hv, rfl, rfl⟩ := hop
    have : execOp ρ' o = (do pure (.value (← (do eqGuard bop t x y (ρ' x) (ρ' y); binOp bop t (ρ' x) (ρ' y) : Sem Value)))) := by simp only [execOp, heq]
    rw [this]
    exact PureR.of (binO_rel hq hv (hρ x) (hρ y))
  · rename_i op uop t x heq
    simp only [Option.map_eq_some_iff, Prod.mk.injEq] at hop
    obtain ⟨v', hv, rfl, rfl⟩ := hop
    have : execOp ρ' o = (do pure (.value (← Op.unary uop (ρ' x)))) := by simp only [execOp, heq]
    rw [this]
    exact PureR.of (unV_rel hv (hρ x))
  · rename_i op src dst x heq
    rw [heq] at hk
    have he : execOp ρ' o = (do pure (.value (← convert src dst (ρ' x)))) := by simp only [execOp, heq]
    rw [he]
    refine PureR.of ?_
    simp only [kindOf] at hk
    split at hk
    · rename_i k hd
      have hx := hρ x
      unfold convertV at hop
      rw [hd] at hop
      split at hop
      · rename_i d k' kk n hs hd' hx'
        rw [hx'] at hx
        simp only [VRel] at hx
        cases hd'
        simp only [Option.some.injEq, Prod.mk.injEq] at hop
        obtain ⟨rfl, rfl⟩ := hop
        exact ⟨_, by rw [hx]; simp [convert, r_under hs, r_under hd, Conv.intToInt]; rfl, by simp [VRel]⟩
      all_goals first | (cases hop; done) | simp_all
    · rename_i hs hd
      have hx := hρ x
      unfold convertV at hop
      rw [hd, hs] at hop
      cases hxe : ρ x <;> rw [hxe] at hop hx <;> simp at hop
      obtain ⟨rfl, rfl⟩ := hop
      exact ⟨ρ' x, by simp only [VRel] at hx; rw [hx]; simp [convert, r_under hs, r_under hd], hx⟩
    · rename_i e hs hd
      have hx := hρ x
      by_cases hstr : ∃ s, ρ x = .str s
      · obtain ⟨s, hse⟩ := hstr
        rw [hse] at hop hx
        unfold convertV at hop
        rw [hd, hs] at hop
        simp at hop
        obtain ⟨rfl, rfl⟩ := hop
        exact ⟨ρ' x, by simp only [VRel] at hx; rw [hx]; simp [convert, r_under hs, r_under hd], hx⟩
      · have hns : ∀ s, ρ x ≠ .str s := fun s e => hstr ⟨s, e⟩
        rw [convertV_bytes hs hd hns] at hop
        split at hop
        · rename_i hu
          simp only [Option.bind_eq_some_iff] at hop
          obtain ⟨n, hn, cs, hcs, hop⟩ := hop
          split at hop
          · rename_i hb
            simp only [Option.some.injEq, Prod.mk.injEq] at hop
            obtain ⟨rfl, rfl⟩ := hop
            obtain ⟨hrun, b, l, c, hxe⟩ := bytesStr_rel (P := E.P) hh hcs hn hns hb hx
            rw [hxe] at hrun ⊢
            refine ⟨.string ⟨(cs.map byteOf).toArray⟩, ?_, by simp [VRel]⟩
            cases b <;> simp [convert, r_under hs, r_under hd, r_under hu, hrun]
          · cases hop
        · cases hop
    · simp at hk
    · simp at hk
  · rename_i op t x heq
    have : execOp ρ' o = (do pure (.value (← Instr.makeInterface t (ρ' x)))) := by simp only [execOp, heq]
    rw [this]
    split at hop
    · cases hop
    · rename_i d hni hu
      simp only [Option.some.injEq, Prod.mk.injEq] at hop
      obtain ⟨rfl, rfl⟩ := hop
      exact PureR.of ⟨_, makeInterface_rel hu (fun ms e => hni ms e) (hρ x)⟩
    · cases hop
  · rename_i op fn first captured heq
    simp only [Option.some.injEq, Prod.mk.injEq] at hop
    obtain ⟨rfl, rfl⟩ := hop
    have : execOp ρ' o = (do pure (.value (← Instr.makeFunc fn (first.map ρ') (captured.map ρ')))) := by simp only [execOp, heq]
    rw [this]
    refine PureR.of ⟨.func fn (first.map ρ') (captured.map ρ'), by simp [Instr.makeFunc], ?_⟩
    simp only [VRel]
    exact ⟨first.toList.map ρ', captured.toList.map ρ', by rw [← Array.toList_map, ← Array.toList_map], mapRel hρ _, mapRel hρ _⟩
  · rename_i op t x lo hi mx heq
    simp only [Option.map_eq_some_iff, Prod.mk.injEq] at hop
    obtain ⟨v', hv, rfl, rfl⟩ := hop
    have : execOp ρ' o = (do pure (.value (← Instr.sliceAt t (ρ' x) (lo.map ρ') (hi.map ρ') (mx.map ρ')))) := by simp only [execOp, heq]
    rw [this]
    exact PureR.of (slice_rel hv (hρ x) (optRel hρ lo) (optRel hρ hi) (optRel hρ mx))
  · rename_i op s x f heq
    simp only [Option.map_eq_some_iff, Prod.mk.injEq] at hop
    obtain ⟨v', hv, rfl, rfl⟩ := hop
    have : execOp ρ' o = (do pure (.value (← Instr.fieldAt s (ρ' x) f))) := by simp only [execOp, heq]
    rw [this]
    exact PureR.of (fieldAddr_rel hv (hρ x))
  · rename_i op t x f heq
    simp only [Option.map_eq_some_iff, Prod.mk.injEq] at hop
    obtain ⟨v', hv, rfl, rfl⟩ := hop
    have : execOp ρ' o = (do pure (.value (← Instr.field t (ρ' x) f))) := by simp only [execOp, heq]
    rw [this]
    exact PureR.of (field_rel hv (hρ x))
  · rename_i op t x i heq
    simp only [Option.map_eq_some_iff, Prod.mk.injEq] at hop
    obtain ⟨v', hv, rfl, rfl⟩ := hop
    have : execOp ρ' o = (do pure (.value (← Instr.indexAt t (ρ' x) (ρ' i)))) := by simp only [execOp, heq]
    rw [this]
    exact PureR.of (indexAddr_rel hv (hρ x) (hρ i))
  · rename_i op t x i heq
    simp only [Option.map_eq_some_iff, Prod.mk.injEq] at hop
    obtain ⟨v', hv, rfl, rfl⟩ := hop
    have : execOp ρ' o = (do pure (.value (← Instr.index t (ρ' x) (ρ' i)))) := by simp only [execOp, heq]
    rw [this]
    exact PureR.of (index_rel hv (hρ x) (hρ i))
  · rename_i op x xt asserted ck heq
    simp only [Option.map_eq_some_iff, Prod.mk.injEq] at hop
    obtain ⟨v', hv, rfl, rfl⟩ := hop
    have : execOp ρ' o = (do pure (.value (← Instr.typeAssert (ρ' x) xt asserted ck))) := by simp only [execOp, heq]
    rw [this]
    exact PureR.of (assert_rel hv (hρ x))
  · rename_i op t i heq
    split at hop
    · rename_i vs hvs
      simp only [Option.map_eq_some_iff, Prod.mk.injEq] at hop
      obtain ⟨v', hv, rfl, rfl⟩ := hop
      have : execOp ρ' o = (do pure (.value (← Instr.extract (ρ' t) i))) := by simp only [execOp, heq]
      rw [this]
      have ht := hρ t
      rw [hvs] at ht
      simp only [VRel] at ht
      obtain ⟨vs', he, hr⟩ := ht
      obtain ⟨c, hc, hcr⟩ := hr.get hv
      refine PureR.of ⟨c, ?_, hcr⟩
      simp [he, Instr.extract, hc]
    · cases hop
  · rename_i op b args ts heq
    have he : execOp ρ' o = builtin b ts o.type (args.map fun | .const _ => true | _ => false) (args.map ρ') := by
      simp only [execOp, heq, resolve]
      rfl
    rw [he]
    rw [heq] at hk
    have ha : VRelL ok w B (args.toList.map ρ) (args.map ρ').toList := by rw [Array.toList_map]; exact mapRel hρ _
    generalize args.map ρ' = args' at ha
    generalize args.toList.map ρ = argsV at ha hop
    have hts : ∀ {t : TypeId} {r : List TypeId}, ts.toList = t :: r → ts[0]? = some t := by
      intro t r hr
      rw [← Array.getElem?_toList, hr]; rfl
    generalize hl : ts.toList = l at hop
    unfold builtinV at hop
    split at hop
    · simp [kindOf] at hk
    · simp [kindOf] at hk
    · rename_i t r x
      have h0 := hts hl
      simp only [VRelL] at ha
      obtain ⟨c1, l1, e1, r1, rfl⟩ := ha
      have he' : args' = #[c1] := by apply Array.ext'; simpa using e1
      subst he'
      simp only [Option.map_eq_some_iff, Prod.mk.injEq] at hop
      obtain ⟨v', hv, rfl, rfl⟩ := hop
      exact PureR.of (len_rel hv r1 h0 _)
    · rename_i t r x
      have h0 := hts hl
      simp only [VRelL] at ha
      obtain ⟨c1, l1, e1, r1, rfl⟩ := ha
      have he' : args' = #[c1] := by apply Array.ext'; simpa using e1
      subst he'
      simp only [Option.map_eq_some_iff, Prod.mk.injEq] at hop
      obtain ⟨n, hn, rfl, rfl⟩ := hop
      split at hn
      · rename_i e hu
        exact PureR.of ⟨_, cap_rel hn r1 h0 hu _, by simp [VRel]⟩
      · cases hn
    · simp [kindOf] at hk
    · rename_i x r
      simp only [VRelL] at ha
      obtain ⟨c1, l1, e1, r1, r2⟩ := ha
      simp only [Option.map_eq_some_iff, Prod.mk.injEq] at hop
      obtain ⟨v', hv, rfl, rfl⟩ := hop
      refine PureR.of ?_
      obtain ⟨c, hc, hr⟩ := fold_rel (P := E.P) (fun x y v a b h ha hb => min_rel x y v a b h ha hb) _ _ _ _ _ hv r1 r2
      exact ⟨c, by simp only [Builtin.min_, e1, hc], hr⟩
    · rename_i x r
      simp only [VRelL] at ha
      obtain ⟨c1, l1, e1, r1, r2⟩ := ha
      simp only [Option.map_eq_some_iff, Prod.mk.injEq] at hop
      obtain ⟨v', hv, rfl, rfl⟩ := hop
      refine PureR.of ?_
      obtain ⟨c, hc, hr⟩ := fold_rel (P := E.P) (fun x y v a b h ha hb => max_rel x y v a b h ha hb) _ _ _ _ _ hv r1 r2
      exact ⟨c, by simp only [Builtin.max_, e1, hc], hr⟩
    · cases hop
  · cases hop
end
end Go.Sim
end
section
namespace Go.Sim
open Go
set_option linter.unusedVariables false
set_option linter.unusedSimpArgs false

theorem Above.drop {h H : Heap} (ha : Above h H) (d : Nat) : Above (h.drop d) (H.drop d) := by
  intro d' j b hg
  rw [Heap.get_drop] at hg ⊢
  exact ha _ _ _ hg

theorem optMap_above {f g : V → Option V} (hf : ∀ v v', f v = some v' → g v = some v') : ∀ (l l' : List V), optMap f l = some l' → optMap g l = some l'
  | [], l', h => h
  | v :: r, l', h => by
    simp only [optMap, Option.bind_eq_some_iff] at h ⊢
    obtain ⟨v', h1, r', h2, h3⟩ := h
    exact ⟨v', hf _ _ h1, r', optMap_above hf _ _ h2, h3⟩
theorem view_above : ∀ (fuel : Nat) (h H : Heap), Above h H → ∀ (v v' : V), V.view fuel h v = some v' → V.view fuel H v = some v' := by
  intro fuel
  induction fuel with
  | zero => intro h H _ v v' hv; simp [V.view] at hv
  | succ n ih =>
    have row : ∀ (h H : Heap), Above h H → ∀ (d : Nat) (cells cs : List V) (flat : Bool), (if flat then some cells else optMap (V.view n (h.drop d)) cells) = some cs → (if flat then some cells else optMap (V.view n (H.drop d)) cells) = some cs := by
      intro h H ha d cells cs flat hv
      cases flat with
      | true => exact hv
      | false => exact optMap_above (fun v v' => ih _ _ (ha.drop d) v v') _ _ hv
    intro h H ha v v' hv
    have hl : ∀ l l', optMap (V.view n h) l = some l' → optMap (V.view n H) l = some l' := optMap_above fun v v' => ih _ _ ha v v'
    unfold V.view at hv ⊢
    split at hv
    · rename_i d j off ep
      split at hv
      · rename_i cells ep' esz flat plain hg
        simp only [ha _ _ _ hg]
        split at hv
        · rename_i he
          rw [if_pos he]
          simp only [Option.bind_eq_some_iff] at hv ⊢
          obtain ⟨cs, hcs, hv⟩ := hv
          exact ⟨cs, row h H ha d cells cs flat hcs, hv⟩
        · cases hv
      · cases hv
    · rename_i d j off len ep q
      split at hv
      · rename_i cells ep' esz flat plain hg
        simp only [ha _ _ _ hg]
        split at hv
        · rename_i he
          rw [if_pos he]
          simp only [Option.bind_eq_some_iff] at hv ⊢
          obtain ⟨cs, hcs, hv⟩ := hv
          exact ⟨cs, row h H ha d cells cs flat hcs, hv⟩
        · cases hv
      · cases hv
    · cases hv
    · cases hv
    · cases hv
    · simp only [Option.bind_eq_some_iff] at hv ⊢
      obtain ⟨a', ha', b', hb', hv⟩ := hv
      exact ⟨a', hl _ _ ha', b', hl _ _ hb', hv⟩
    · simp only [Option.bind_eq_some_iff] at hv ⊢
      obtain ⟨a', ha', hv⟩ := hv
      exact ⟨a', ih _ _ ha _ _ ha', hv⟩
    · simp only [Option.bind_eq_some_iff] at hv ⊢
      obtain ⟨a', ha', hv⟩ := hv
      exact ⟨a', hl _ _ ha', hv⟩
    · simp only [Option.bind_eq_some_iff] at hv ⊢
      obtain ⟨a', ha', hv⟩ := hv
      exact ⟨a', hl _ _ ha', hv⟩
    · exact hv
theorem viewArgs_above {h H : Heap} (ha : Above h H) : ∀ (l l' : List V), viewArgs h l = some l' → viewArgs H l = some l'
  | [], l', hv => by simpa [viewArgs] using hv
  | v :: r, l', hv => by
    simp only [viewArgs, Option.bind_eq_some_iff] at hv ⊢
    obtain ⟨v', h1, r', h2, h3⟩ := hv
    refine ⟨v', ?_, r', viewArgs_above ha r r' h2, h3⟩
    split at h1
    · rename_i hf; rw [if_pos hf]; exact h1
    · rename_i hf; rw [if_neg hf]; exact view_above 50 _ _ ha _ _ h1

section
variable {E : Env} {rec : Rec} {h h' H : Heap} {f : FuncId} {args : List V} {v : V} {p : Array Oper → Bool}

theorem call_r (hk : E.known f = none) (hm : E.mode f = .pure) (hc : callV E rec f args h = some (v, h')) : h' = h ∧ ∀ H, Above h H → callV E rec f args H = some (v, H) := by
  unfold callV at hc ⊢
  rw [hk, hm] at hc ⊢
  simp only [Option.bind_eq_some_iff, Option.map_eq_some_iff, Prod.mk.injEq] at hc ⊢
  obtain ⟨args1, hv, r1, hp, rfl, rfl⟩ := hc
  exact ⟨rfl, fun H hA => ⟨args1, viewArgs_above hA _ _ hv, r1, hp, rfl, trivial⟩⟩

theorem call_pure_sound {m : Nat} (hS : Sound E.P p rec m) (hE : FnOk E p) (hk : E.known f = none) (hm : E.mode f = .pure) (hc : callV E rec f args h = some (v, h')) {ok : Nat → Prop} {B : Bd} {w : World} {args' : List Value}
    {R : Ending → World → Prop} (hh : HR ok w B p h) (ha : VRelL ok w B args args') (hR : ∀ ok' w' c, After p ok B w h.length h v ok' B w' c → R (.returned c) w') : CallsIn Fence.wide 0 E.P f args'.toArray w R := by
  unfold callV at hc
  rw [hk, hm] at hc
  simp only [Option.bind_eq_some_iff, Option.map_eq_some_iff, Prod.mk.injEq] at hc
  obtain ⟨args1, hv, r1, hp, rfl, rfl⟩ := hc
  unfold pureV at hp
  simp only [Option.bind_eq_some_iff] at hp
  obtain ⟨⟨r0, h1⟩, hb, hp⟩ := hp
  dsimp only at hp
  split at hp
  · simp only [Option.map_eq_some_iff] at hp
    obtain ⟨r', hfr, rfl⟩ := hp
    exact inner_strip (body_sound hS hE hb) hh ha hv fun ok2 B2 w' v hi => hR _ _ _ (pure_sound hi hh (by rw [Heap.top_setTop (by have := hi.heap.pos; rw [Heap.length_setTop] at this; exact this)]; exact hfr))
  · rename_i hl
    simp only [Option.map_eq_some_iff] at hp
    obtain ⟨r', hfr, rfl⟩ := hp
    exact inner_of (body_sound hS hE hb) hh ha hv (by simpa using hl) fun ok2 B2 w' v hi => hR _ _ _ (pure_sound hi hh hfr)

/-- What a function called for its memory leaves. -/
def stripIf (c : Bool) (x : V × Heap) : V × Heap := if c then (V.strip x.1, x.2.setTop (x.2.top.map stripBlk)) else x
theorem inner_if {P : Program} {args1 : List V} {r : V} {h1 : Heap} {ok : Nat → Prop} {B : Bd} {w : World} (hc : CallS P p f args1 [[]] r h1) (hh : HR ok w B p h) {args' : List Value} (ha : VRelL ok w B args args')
    (hv : viewArgs h args = some args1) {R : Ending → World → Prop}
    (hR : ∀ ok2 B2 w' v, Inner p ok w (stripIf (!V.flatL args && !V.own h1 r) (r, h1)).2 (stripIf (!V.flatL args && !V.own h1 r) (r, h1)).1 ok2 B2 w' v → R (.returned v) w') : CallsIn Fence.wide 0 P f args'.toArray w R := by
  cases hl : (!V.flatL args && !V.own h1 r) with
  | true => rw [hl] at hR; exact inner_strip hc hh ha hv hR
  | false => rw [hl] at hR; exact inner_of hc hh ha hv hl hR
/-- A call that makes blocks of its own: the blocks, by where they lie. -/
theorem call_a (hk : E.known f = none) (hm : E.mode f = .own) (hc : callV E rec f args h = some (v, h')) : ∃ args1 r0 h1, viewArgs h args = some args1 ∧ bodyV E rec f args1 [[]] = some (r0, h1) ∧
    (v = V.out h.top.length (stripIf (!V.flatL args && !V.own h1 r0) (r0, h1)).1 ∧ h' = h.setTop (h.top ++ (stripIf (!V.flatL args && !V.own h1 r0) (r0, h1)).2.top.map (outBlk h.top.length))) := by
  unfold callV at hc
  rw [hk, hm] at hc
  simp only [Option.bind_eq_some_iff] at hc
  obtain ⟨args1, hv, ⟨r0, h1⟩, hb, hp⟩ := hc
  dsimp only at hp
  refine ⟨args1, r0, h1, hv, hb, ?_⟩
  split at hp
  · rename_i hl
    simp only [Option.some.injEq, Prod.mk.injEq] at hp
    obtain ⟨rfl, rfl⟩ := hp
    rw [hl]
    refine ⟨rfl, ?_⟩
    show _ = h.setTop (h.top ++ (h1.setTop (h1.top.map stripBlk)).top.map (outBlk h.top.length))
    rw [Heap.top_mapTop]
  · rename_i hl
    simp only [Option.some.injEq, Prod.mk.injEq] at hp
    obtain ⟨rfl, rfl⟩ := hp
    have hl' : (!V.flatL args && !V.own h1 r0) = false := by simpa using hl
    rw [hl']
    exact ⟨rfl, rfl⟩
end

def Bd.graftAt (B B2 : Bd) (k n : Nat) : Bd := fun d j => if d = 0 ∧ k ≤ j ∧ j < k + n then (B2 0 (j - k)).still else B d j
/-- Blocks handed over, at a place that holds them already and stands for nothing yet. -/
theorem graft_at {ok ok2 : Nat → Prop} {w w' : World} {B B' : Bd} {p : Array Oper → Bool} {H h1 : Heap} {r : V} {v : Value} {k : Nat} (hi : Inner p ok w h1 r ok2 B' w' v) (hh : HR ok w B p H)
    (hout : ∀ i, i < h1.top.length → B 0 (k + i) = .out) (hget : ∀ i b, (h1.top.map (outBlk k))[i]? = some b → H.get 0 (k + i) = some b) :
    After p ok B w H.length H (V.out k r) ok2 (B.graftAt B' k h1.top.length) w' v := by
  have hokin : ∀ b, ok b → ok2 b := fun b hb => (hi.okEq b (hh.okn b hb).1).2 hb
  have hsame : ∀ d j b, (B d j).blk = some b → w'.heap[b]? = w.heap[b]? := fun d j b hb => hi.same b (hh.lt d j b hb)
  have hO : OutB k B' (B.graftAt B' k h1.top.length) := by
    refine ⟨fun j => ?_, fun d j => .inl (hi.up d j)⟩
    by_cases hj : j < h1.top.length
    · have : B.graftAt B' k h1.top.length 0 (k + j) = (B' 0 j).still := by
        simp only [Bd.graftAt]; rw [if_pos ⟨trivial, by omega, by omega⟩, Nat.add_sub_cancel_left]
      rw [this]
      rcases Ent.still_cases (B' 0 j) with h | ⟨l, h1, h2⟩
      · exact .inr (.inl h)
      · exact .inr (.inr ⟨l, h1, h2⟩)
    · exact .inl (hi.heap.top_lt (by omega))
  have hBm : ∀ d j, B d j = .out ∨ B.graftAt B' k h1.top.length d j = B d j := by
    intro d j
    by_cases hc : d = 0 ∧ k ≤ j ∧ j < k + h1.top.length
    · obtain ⟨rfl, hj, hj2⟩ := hc
      have := hout (j - k) (by omega)
      rw [show k + (j - k) = j from by omega] at this
      exact .inl this
    · right; simp only [Bd.graftAt]; rw [if_neg hc]
  have hidx : ∀ d j b, (B.graftAt B' k h1.top.length d j).blk = some b → (d = 0 ∧ k ≤ j ∧ (B' 0 (j - k)).blk = some b) ∨ (¬ (d = 0 ∧ k ≤ j ∧ j < k + h1.top.length) ∧ (B d j).blk = some b) := by
    intro d j b hb
    unfold Bd.graftAt at hb
    split at hb
    · rename_i hc; exact .inl ⟨hc.1, hc.2.1, Ent.still_blk hb⟩
    · rename_i hc; exact .inr ⟨hc, hb⟩
  have hw := outer_kept hi hh
  refine ⟨⟨hi.size, hi.os, hi.tape, hi.output, fun b hb _ => hi.same b hb, hi.okEq, fun d j => ?_, fun d j b hb hlt => ?_⟩, ⟨hh.pos, fun d j => ?_, fun d j d' j' b hb hb' => ?_, fun d j b hb => ?_, fun b hb => ⟨(hi.heap.okn b hb).1, fun d j hm => ?_⟩⟩, out_rel hO _ _ hi.val, rfl⟩
  · rcases hBm d j with h | h
    · rw [h]; trivial
    · rw [h]; exact EntLe.refl _ fun b hb => by simp only [csize, hsame d j b hb]; exact Nat.le_refl _
  · rcases hidx d j b hb with ⟨_, _, h⟩ | ⟨_, h⟩
    · have := hi.new _ _ _ h; omega
    · exact h
  · by_cases hc : d = 0 ∧ k ≤ j ∧ j < k + h1.top.length
    · obtain ⟨rfl, hj, hj2⟩ := hc
      have he : B.graftAt B' k h1.top.length 0 j = (B' 0 (j - k)).still := by simp only [Bd.graftAt]; rw [if_pos ⟨trivial, hj, hj2⟩]
      have hb := hi.heap.blk 0 (j - k)
      rw [Heap.get_top hi.heap.pos, Bd.from_zero] at hb
      have hob : (h1.top[j - k]?).map (outBlk k) = H.get 0 j := by
        have hlt : j - k < h1.top.length := by omega
        rw [List.getElem?_eq_getElem hlt]
        have := hget (j - k) (outBlk k h1.top[j - k]) (by rw [List.getElem?_map, List.getElem?_eq_getElem hlt]; rfl)
        rw [show k + (j - k) = j from by omega] at this
        rw [this]; rfl
      rw [he, Bd.from_zero, ← hob]
      exact outBlk_rel hO hb
    · have he : B.graftAt B' k h1.top.length d j = B d j := by simp only [Bd.graftAt]; rw [if_neg hc]
      rw [he]
      exact ((hw.blk d j).okmono hokin).bmono fun d' j' => hBm (d + d') j'
  · rcases hidx d j b hb with ⟨rfl, hj, h1⟩ | ⟨hc, h1⟩
    · rcases hidx d' j' b hb' with ⟨rfl, hj', h2⟩ | ⟨hc', h2⟩
      · obtain ⟨_, h3⟩ := hi.heap.inj _ _ _ _ b h1 h2
        exact ⟨rfl, by omega⟩
      · have := hi.new _ _ _ h1; have := hh.lt _ _ _ h2; omega
    · rcases hidx d' j' b hb' with ⟨rfl, hj', h2⟩ | ⟨hc', h2⟩
      · have := hi.new _ _ _ h2; have := hh.lt _ _ _ h1; omega
      · exact hh.inj _ _ _ _ b h1 h2
  · rcases hidx d j b hb with ⟨_, _, h⟩ | ⟨_, h⟩
    · exact hi.heap.lt _ _ _ h
    · exact Nat.lt_of_lt_of_le (hh.lt _ _ _ h) hi.size
  · rcases hidx d j b hm with ⟨_, _, h⟩ | ⟨_, h⟩
    · exact (hi.heap.okn b hb).2 _ _ h
    · have hlt := hh.lt d j b h
      exact (hh.okn b ((hi.okEq b hlt).1 hb)).2 d j h

/-! ### The kinds, operation by operation -/
section
variable {E : Env} {rec : Rec} {p : Array Oper → Bool} {T : List V}

theorem kindT_cases (T : List V) (o : Op) : (∃ f args ts, o = .call { callee := .value f, args, argTypes := ts }) ∨ kindT E T o = kindOf E.P o := by
  unfold kindT
  split
  · exact .inl ⟨_, _, _, rfl⟩
  · exact .inr rfl
theorem kindT_call {f : Operand} {args : Array Operand} {ts : Array TypeId} : (∃ g first captured, evalT T f = .func (.func g) first captured ∧ E.known g = none ∧
      ((kindT E T (.call { callee := .value f, args, argTypes := ts }) = .r ∧ E.mode g = .pure) ∨ (kindT E T (.call { callee := .value f, args, argTypes := ts }) = .a ∧ E.mode g = .own))) ∨
    kindT E T (.call { callee := .value f, args, argTypes := ts }) = .e := by
  simp only [kindT]
  split
  · rename_i g first captured hf
    cases hk : E.known g with
    | some x => exact .inr rfl
    | none => cases hm : E.mode g <;> first | exact .inr rfl | exact .inl ⟨g, first, captured, hf, hk, by simp [hm]⟩
  · exact .inr rfl
theorem operV_call {h : Heap} {f : Operand} {args : Array Operand} {ts : Array TypeId} {g : FuncId} {first captured : List V} (hf : evalT T f = .func (.func g) first captured) :
    operV E rec T h (.call { callee := .value f, args, argTypes := ts }) = callV E rec g (first ++ args.toList.map (evalT T) ++ captured) h := by
  simp only [operV, applyV, hf]
theorem operV_opV {h : Heap} {o : Op} (hk : kindOf E.P o ≠ .e) : operV E rec T h o = opV E (evalT T) h o := by
  unfold operV
  split
  · simp [kindOf] at hk
  · simp [kindOf] at hk
  · rfl

theorem oper_n {h h' : Heap} {o : Op} {v : V} (hk : kindT E T o = .n) (hop : operV E rec T h o = some (v, h')) : h' = h ∧ ∀ H, operV E rec T H o = some (v, H) := by
  rcases kindT_cases (E := E) T o with ⟨f, args, ts, rfl⟩ | he
  · rcases kindT_call (E := E) (T := T) (f := f) (args := args) (ts := ts) with ⟨_, _, _, _, _, ⟨h, _⟩ | ⟨h, _⟩⟩ | h <;> rw [h] at hk <;> cases hk
  · rw [he] at hk
    have hne : kindOf E.P o ≠ .e := by rw [hk]; simp
    rw [operV_opV hne] at hop
    obtain ⟨h1, h2⟩ := op_n hk hop
    exact ⟨h1, fun H => by rw [operV_opV hne]; exact h2 H⟩
theorem oper_r {h h' : Heap} {o : Op} {v : V} (hk : kindT E T o = .r) (hop : operV E rec T h o = some (v, h')) : h' = h ∧ ∀ H, Above h H → operV E rec T H o = some (v, H) := by
  rcases kindT_cases (E := E) T o with ⟨f, args, ts, rfl⟩ | he
  · rcases kindT_call (E := E) (T := T) (f := f) (args := args) (ts := ts) with ⟨g, first, captured, hf, h1, ⟨_, h2⟩ | ⟨h, _⟩⟩ | h
    · rw [operV_call hf] at hop
      obtain ⟨g1, g2⟩ := call_r h1 h2 hop
      exact ⟨g1, fun H hA => by rw [operV_call hf]; exact g2 H hA⟩
    · rw [h] at hk; cases hk
    · rw [h] at hk; cases hk
  · rw [he] at hk
    have hne : kindOf E.P o ≠ .e := by rw [hk]; simp
    rw [operV_opV hne] at hop
    obtain ⟨h1, h2⟩ := op_r hk hop
    exact ⟨h1, fun H hA => by rw [operV_opV hne]; exact h2 H hA⟩

/-- A function value is entered. -/
theorem enter_value {F : Fence} (hF : FW F) {o : Oper} {a : Act} {f : Operand} {args : Array Operand} {ts : Array TypeId} (heq : o.op = .call { callee := .value f, args, argTypes := ts }) {g : FuncId} (hent : Enters E g) {first captured : List V}
    (hf : evalT T f = .func (.func g) first captured) {ok : Nat → Prop} {B : Bd} {w : World} (ht : VRelL ok w B T a.tmps.toList) {next : Act → World → Prop} {Q : Exit → Act → World → Prop}
    (hc : ∀ args', VRelL ok w B (first ++ args.toList.map (evalT T) ++ captured) args' → CallsIn Fence.wide 0 E.P g args'.toArray w fun | .returned v, w'' => next (a.put o.dst v) w'' | .panicked chain, w'' => Q (.panic chain) a w'' | .outgrown, _ => LetsOut Q) :
    o.wpIn F 0 E.P a w next Q := by
  have hρ : ∀ x, VRel ok w B (evalT T x) (a.eval x) := fun x => evalT_rel ht x
  have hd : ∀ c, o.op ≠ .defer c := fun c e => by rw [heq] at e; cases e
  have hargs : VRelL ok w B (args.toList.map (evalT T)) (args.map a.eval).toList := by rw [Array.toList_map]; exact mapRel hρ _
  have hfv := hρ f
  rw [hf] at hfv
  simp only [VRel] at hfv
  obtain ⟨a', b', hfv, h1, h2⟩ := hfv
  have hall : VRelL ok w B (first ++ args.toList.map (evalT T) ++ captured) (a' ++ (args.map a.eval).toList ++ b') := (h1.append hargs).append h2
  refine hF.enter hd (w1 := w) (f := g) (args := (a' ++ (args.map a.eval).toList ++ b').toArray) ?_ (hc _ hall)
  have := hent.run (a' ++ (args.map a.eval).toList ++ b').toArray w
  simp only [execOp, heq, resolve, hfv, Deferred.ofValue, invoke, Sem.run_bind, Sem.run_pure, Result.andThen_ok]
  rw [← this]
  congr 2
  apply Array.ext'
  simp

/-- An operation of kind n or r leaves the entries as they are. -/
theorem wp_nr {m : Nat} (hS : Sound E.P p rec m) (hq : EqOk E) (hE : FnOk E p) (hKI : KnownIn E) {F : Fence} (hF : FW F) {o : Oper} {a : Act} {v : V} {H : Heap} {ok : Nat → Prop} {B : Bd} {w : World}
    (hk : kindT E T o.op = .n ∨ kindT E T o.op = .r) (hop : operV E rec T H o.op = some (v, H)) (hh : HR ok w B p H) (ht : VRelL ok w B T a.tmps.toList) {next : Act → World → Prop} {Q : Exit → Act → World → Prop}
    (hR : ∀ ok' w' c, Ext ok B w ok' B w' → HR ok' w' B p H → VRel ok' w' B v c → next (a.put o.dst c) w') : o.wpIn F 0 E.P a w next Q := by
  have hρ : ∀ x, VRel ok w B (evalT T x) (a.eval x) := fun x => evalT_rel ht x
  rcases kindT_cases (E := E) T o.op with ⟨f, args, ts, heq⟩ | he
  · rw [heq] at hk hop
    rcases kindT_call (E := E) (T := T) (f := f) (args := args) (ts := ts) with ⟨g, first, captured, hf, h1, ⟨_, h2⟩ | ⟨h, _⟩⟩ | h
    · rw [operV_call hf] at hop
      exact enter_value hF heq (call_enters hE hKI hop) hf ht fun args' hargs => call_pure_sound hS hE h1 h2 hop hh hargs fun ok' w' c hA => hR ok' w' c hA.ext hA.heap hA.val
    · rw [h] at hk; simp at hk
    · rw [h] at hk; simp at hk
  · rw [he] at hk
    have hne : kindOf E.P o.op ≠ .e := by rcases hk with h | h <;> rw [h] <;> simp
    have hd : ∀ c, o.op ≠ .defer c := fun c e => by rw [operV_opV hne, e] at hop; simp [opV] at hop
    rw [operV_opV hne] at hop
    obtain ⟨n, c, hrun, hg, hr⟩ := op_pure hq hh hρ hk hop
    refine ⟨fun f _ => hF.fn f, ?_⟩
    rw [Oper.semAt_eq _ _ _ hd, hrun]
    have := hR ok w c (Ext.refl ok B w) hh hr
    rcases hg with rfl | ⟨rfl, rfl⟩
    · exact this
    · exact this

theorem oper_a {m : Nat} (hS : Sound E.P p rec m) (hq : EqOk E) (hE : FnOk E p) (hKI : KnownIn E) {o : Oper} {h h' : Heap} {v : V} (hk : kindT E T o.op = .a) (hop : operV E rec T h o.op = some (v, h')) :
    ∃ blks : List Blk, h' = h.setTop (h.top ++ blks) ∧ ∀ (F : Fence) (H : Heap) (ok : Nat → Prop) (B : Bd) (w : World) (a : Act) (next : Act → World → Prop) (Q : Exit → Act → World → Prop), FW F → Above h H → HR ok w B p H →
      (∀ i, i < blks.length → B 0 (h.top.length + i) = .out) → (∀ i b, blks[i]? = some b → H.get 0 (h.top.length + i) = some b) → VRelL ok w B T a.tmps.toList →
      (∀ ok' B' w' c, Ext ok B w ok' B' w' → HR ok' w' B' p H → VRel ok' w' B' v c → (∀ d' j', ¬ (d' = 0 ∧ h.top.length ≤ j' ∧ j' < h.top.length + blks.length) → B' d' j' = B d' j') → next (a.put o.dst c) w') → o.wpIn F 0 E.P a w next Q := by
  rcases kindT_cases (E := E) T o.op with ⟨f, args, ts, heq⟩ | he
  · rw [heq] at hk hop
    rcases kindT_call (E := E) (T := T) (f := f) (args := args) (ts := ts) with ⟨g, first, captured, hf, h1, ⟨h, _⟩ | ⟨_, h2⟩⟩ | h
    · rw [h] at hk; cases hk
    · rw [operV_call hf] at hop
      have hent := call_enters hE hKI hop
      obtain ⟨args1, r0, hb0, hv, hb, hl⟩ := call_a h1 h2 hop
      obtain ⟨rfl, rfl⟩ := hl
      generalize hst : stripIf (!V.flatL (first ++ args.toList.map (evalT T) ++ captured) && !V.own hb0 r0) (r0, hb0) = st
      obtain ⟨rs, hb1⟩ := st
      refine ⟨hb1.top.map (outBlk h.top.length), rfl, fun F H ok B w a next Q hF hA hh hout hget ht hR => ?_⟩
      refine enter_value hF heq hent hf ht fun args' hargs => inner_if (body_sound hS hE hb) hh hargs (viewArgs_above hA _ _ hv) fun ok2 B2 w' c hi => ?_
      rw [hst] at hi
      have hg := graft_at (k := h.top.length) hi hh (fun i hi' => hout i (by simpa using hi')) hget
      refine hR ok2 _ w' c hg.ext hg.heap hg.val fun d' j' hq' => ?_
      simp only [Bd.graftAt]
      rw [if_neg (by simpa using hq')]
    · rw [h] at hk; cases hk
  · rw [he] at hk
    have hne : kindOf E.P o.op ≠ .e := by rw [hk]; simp
    rw [operV_opV hne] at hop
    have hd : ∀ c, o.op ≠ .defer c := fun c e => by rw [e] at hop; simp [opV] at hop
    obtain ⟨vf, blk, hv1, hv2, hA0⟩ := op_a hk hop
    refine ⟨[blk], hv2, fun F H ok B w a next Q hF hA hh hout hget ht hR => ?_⟩
    have hρ : ∀ x, VRel ok w B (evalT T x) (a.eval x) := fun x => evalT_rel ht x
    obtain ⟨sm, hse, hal⟩ := hA0 p ok B w a.eval hρ
    obtain ⟨c, w', B', hrun, hx', hh', hvr, hkeep⟩ := hal H h.top.length hh (hout 0 (by simp)) (hget 0 blk rfl)
    refine ⟨fun f _ => hF.fn f, ?_⟩
    rw [Oper.semAt_eq _ _ _ hd, hse]
    have hrun' : (do pure (.value (← sm)) : Sem Next).run E.P w = .ok (.value c) w' := by simp [hrun]
    rw [hrun']
    refine hR ok B' w' c hx' hh' (by rw [hv1]; exact hvr) fun d' j' hq' => hkeep d' j' fun e => hq' ⟨e.1, by omega, by rw [e.2]; simp⟩
end
end Go.Sim
end
section
namespace Go.Sim
open Go
set_option linter.unusedVariables false
set_option linter.unusedSimpArgs false
section
variable {E : Env} {rec : Rec} {h : Heap}

theorem partsV_congr {ρ ρ' : Operand → V} : ∀ (l : List (Nat × Operand)), (∀ x ∈ l.map (·.2), ρ x = ρ' x) → partsV ρ l = partsV ρ' l
  | [], _ => rfl
  | (i, x) :: r, hp => by
    simp only [partsV]
    rw [hp x (by simp), partsV_congr r fun y hy => hp y (by simp at hy ⊢; exact .inr hy)]
theorem map_congr_ops {ρ ρ' : Operand → V} {l : List Operand} (h : ∀ x ∈ l, ρ x = ρ' x) : l.map ρ = l.map ρ' := List.map_congr_left h

theorem opV_congr {ρ ρ' : Operand → V} (o : Op) (h1 : ∀ x ∈ o.operands, ρ x = ρ' x) : opV E ρ h o = opV E ρ' h o := by
  cases o <;> simp only [Op.operands] at h1 <;> simp only [opV]
  case build t ps => rw [partsV_congr ps.toList fun x hx => h1 x (by simpa using hx)]
  case buildSlice t n ps => rw [partsV_congr ps.toList fun x hx => h1 x (by simpa using hx)]
  case makeFunc fn first captured =>
    rw [map_congr_ops (l := first.toList) fun x hx => h1 x (by simp at hx ⊢; exact .inl hx), map_congr_ops (l := captured.toList) fun x hx => h1 x (by simp at hx ⊢; exact .inr hx)]
  case slice t x lo hi mx => cases lo <;> cases hi <;> cases mx <;> simp_all
  case call c =>
    obtain ⟨callee, args, ats⟩ := c
    cases callee with
    | builtin b => simp only; rw [map_congr_ops (l := args.toList) fun x hx => h1 x (by simp [Call.operands]; simpa using hx)]
    | value f => rfl
    | invoke r n => rfl
  all_goals (first | rfl | (simp_all; done))

theorem operV_congr {T T' : List V} (o : Op) (h1 : ∀ x ∈ o.operands, evalT T x = evalT T' x) : operV E rec T h o = operV E rec T' h o := by
  unfold operV
  split
  · rename_i f args ts
    simp only [Op.operands, Call.operands] at h1
    rw [h1 f (by simp), map_congr_ops (l := args.toList) fun x hx => h1 x (by simp at hx ⊢; exact .inr hx)]
  · rename_i recv name args ts
    simp only [Op.operands, Call.operands] at h1
    rw [h1 recv (by simp), map_congr_ops (l := args.toList) fun x hx => h1 x (by simp at hx ⊢; exact .inr hx)]
  · exact opV_congr _ h1

theorem evalT_congr {ops : Array Oper} {o : Oper} {T T' : List V} (h1 : ∀ t ∈ o.looksAt ops, T.getD t .poison = T'.getD t .poison) : ∀ x ∈ o.op.operands, evalT T x = evalT T' x := by
  intro x hx
  cases x with
  | tmp t =>
    simp only [evalT]
    exact h1 t (List.mem_append_left _ (List.mem_filterMap.2 ⟨.tmp t, by simpa using hx, rfl⟩))
  | _ => rfl

/-- One operation of a region: what it puts and the heap behind it. -/
def valV (E : Env) (rec : Rec) (ops : Array Oper) (o : Oper) (tmps : List V) (h : Heap) : Option (V × Heap) :=
  (wantedV ops tmps o).bind fun b => if b then operV E rec tmps h o.op else some (V.undef, h)
theorem opsV_cons {ops : Array Oper} {o : Oper} {r : List Oper} {s : St} : opsV E rec ops (o :: r) s = (valV E rec ops o s.tmps s.heap).bind fun x => opsV E rec ops r { s with tmps := putT s.tmps o.dst x.1, heap := x.2 } := by
  simp only [opsV, valV]
  cases wantedV ops s.tmps o with
  | none => rfl
  | some b => cases b <;> simp

theorem wanted_congr {ops : Array Oper} {o : Oper} {T T' : List V} (hl : T.length = T'.length) (h1 : ∀ t ∈ o.looksAt ops, T.getD t .poison = T'.getD t .poison) : wantedV ops T o = wantedV ops T' o := by
  unfold wantedV
  split
  · rfl
  · rename_i j want hg
    have : ((ops[j]?).bind (·.dst)).bind (T[·]?) = ((ops[j]?).bind (·.dst)).bind (T'[·]?) := by
      cases hd : (ops[j]?).bind (·.dst) with
      | none => rfl
      | some d =>
        simp only [Option.bind_some]
        have := h1 d (by unfold Oper.looksAt; rw [hg]; simp only; rw [hd]; simp)
        by_cases hlt : d < T.length
        · have hlt' : d < T'.length := hl ▸ hlt
          rw [List.getElem?_eq_getElem hlt, List.getElem?_eq_getElem hlt']
          rw [List.getD_eq_getElem?_getD, List.getD_eq_getElem?_getD, List.getElem?_eq_getElem hlt, List.getElem?_eq_getElem hlt'] at this
          simpa using this
        · have hge : T.length ≤ d := Nat.le_of_not_lt hlt
          have hge' : T'.length ≤ d := hl ▸ hge
          rw [List.getElem?_eq_none hge, List.getElem?_eq_none hge']
    rw [this]
theorem valV_congr {ops : Array Oper} {o : Oper} {T T' : List V} (hl : T.length = T'.length) (h1 : ∀ t ∈ o.looksAt ops, T.getD t .poison = T'.getD t .poison) : valV E rec ops o T h = valV E rec ops o T' h := by
  unfold valV
  rw [wanted_congr hl h1, operV_congr o.op (evalT_congr h1)]
end

/-- The states of a region, operation by operation in the order of the text: what each puts, the heap ahead of each. -/
structure Trace (E : Env) (rec : Rec) (ops : Array Oper) (s s' : St) where
  val : Nat → V
  T : Nat → List V
  hp : Nat → Heap
  T0 : T 0 = s.tmps
  h0 : hp 0 = s.heap
  Tn : T ops.size = s'.tmps
  hn : hp ops.size = s'.heap
  fn : s'.fn = s.fn
  step : ∀ i o, ops[i]? = some o → valV E rec ops o (T i) (hp i) = some (val i, hp (i + 1)) ∧ T (i + 1) = putT (T i) o.dst (val i)

theorem trace_list {E : Env} {rec : Rec} {ops : Array Oper} : ∀ (l : List Oper) (s s' : St), opsV E rec ops l s = some s' →
    ∃ (val : Nat → V) (T : Nat → List V) (hp : Nat → Heap), T 0 = s.tmps ∧ hp 0 = s.heap ∧ T l.length = s'.tmps ∧ hp l.length = s'.heap ∧ s'.fn = s.fn ∧
      ∀ i o, l[i]? = some o → valV E rec ops o (T i) (hp i) = some (val i, hp (i + 1)) ∧ T (i + 1) = putT (T i) o.dst (val i)
  | [], s, s', h => by
    simp only [opsV, Option.some.injEq] at h; subst h
    exact ⟨fun _ => .poison, fun _ => s.tmps, fun _ => s.heap, rfl, rfl, rfl, rfl, rfl, fun i o h => by simp at h⟩
  | o :: r, s, s', h => by
    rw [opsV_cons] at h
    simp only [Option.bind_eq_some_iff] at h
    obtain ⟨⟨v, h1⟩, hv, h⟩ := h
    obtain ⟨val, T, hp, e1, e2, e3, e4, e5, e6⟩ := trace_list r _ s' h
    refine ⟨fun i => if i = 0 then v else val (i - 1), fun i => if i = 0 then s.tmps else T (i - 1), fun i => if i = 0 then s.heap else hp (i - 1), rfl, rfl, by simpa using e3, by simpa using e4, e5, ?_⟩
    intro i o' ho
    cases i with
    | zero =>
      simp at ho; subst ho
      simp only [if_true, Nat.zero_add, Nat.one_ne_zero, if_false, Nat.sub_self]
      rw [e1, e2]
      exact ⟨hv, rfl⟩
    | succ i =>
      simp at ho
      have := e6 i o' ho
      simpa using this
noncomputable def Trace.of {E : Env} {rec : Rec} {ops : Array Oper} {s s' : St} (h : opsV E rec ops ops.toList s = some s') : Trace E rec ops s s' :=
  let x := trace_list ops.toList s s' h
  { val := x.choose
    T := x.choose_spec.choose
    hp := x.choose_spec.choose_spec.choose
    T0 := x.choose_spec.choose_spec.choose_spec.1
    h0 := x.choose_spec.choose_spec.choose_spec.2.1
    Tn := by have := x.choose_spec.choose_spec.choose_spec.2.2.1; simpa using this
    hn := by have := x.choose_spec.choose_spec.choose_spec.2.2.2.1; simpa using this
    fn := x.choose_spec.choose_spec.choose_spec.2.2.2.2.1
    step := fun i o ho => x.choose_spec.choose_spec.choose_spec.2.2.2.2.2 i o (by rw [Array.getElem?_toList]; exact ho) }
end Go.Sim
end
section
namespace Go.Sim
open Go
set_option linter.unusedVariables false
set_option linter.unusedSimpArgs false

section
variable {E : Env} {ops : Array Oper}

def Lst (listed : Array Bool) (i : Nat) : Prop := listed[i]? = some true
def Closed (ops : Array Oper) (listed : Array Bool) : Prop := ∀ i o, Lst listed i → ops[i]? = some o → ∀ e ∈ o.after, Region.binds .any e = true → Lst listed e.on

theorem reach_listed {listed : Array Bool} (hc : Closed ops listed) : ∀ (f i j : Nat), (∀ o, ops[i]? = some o → ∀ e ∈ o.after, Region.binds .any e = true → Lst listed e.on) → reach ops f i j = true → Lst listed j
  | 0, i, j, _, h => by simp [reach] at h
  | f + 1, i, j, hi, h => by
    simp only [reach] at h
    split at h
    · cases h
    · rename_i o ho
      rw [Array.any_eq_true] at h
      obtain ⟨k, hk, h⟩ := h
      simp only [Bool.and_eq_true, Bool.or_eq_true, beq_iff_eq] at h
      have hl := hi o ho o.after[k] (Array.getElem_mem hk) h.1
      rcases h.2 with h | h
      · rw [← h]; exact hl
      · exact reach_listed hc f _ j (fun o' ho' e he hb => hc _ o' hl ho' e he hb) h

theorem regOkD_at {T : List V} (h : regOkD E ops T = true) {i : Nat} {o : Oper} (ho : ops[i]? = some o) : edgesOk ops = true ∧ stabC ops i o.op = true ∧ ∀ j q, j < i → ops[j]? = some q →
    reach ops 8 i j = true ∨ (confS ops q o = false ∧ (confK (kindT E T q.op) (kindT E T o.op) = false ∨ disj E T ops i j o q = true ∨ disj E T ops j i q o = true)) := by
  have hi : i < ops.size := (Array.getElem?_eq_some_iff.1 ho).1
  simp only [regOkD, Bool.and_eq_true, List.all_eq_true, List.mem_range] at h
  have := h.2 i hi
  rw [ho] at this
  simp only [Bool.and_eq_true, List.all_eq_true, List.mem_range] at this
  obtain ⟨h2, h3⟩ := this
  refine ⟨h.1, h2, fun j q hj hq => ?_⟩
  have h4 := h3 j hj
  rw [hq] at h4
  simp only [Bool.or_eq_true, Bool.and_eq_true, Bool.not_eq_true'] at h4
  rcases h4 with ⟨h5, (h6 | h6) | h6⟩ | h4
  · exact .inr ⟨h5, .inl h6⟩
  · exact .inr ⟨h5, .inr (.inl h6)⟩
  · exact .inr ⟨h5, .inr (.inr h6)⟩
  · exact .inl h4
/-- A rank in which the edges that bind go down. -/
theorem rank_some {md : Region.Mode} (h : edgesOk ops = true) : ∃ r : Nat → Nat, ∀ i o, ops[i]? = some o → ∀ e ∈ o.after, Region.binds md e = true → e.on < ops.size ∧ r e.on < r i := by
  have rank : ∀ md, rankE md ops = true → ∃ r : Nat → Nat, ∀ i o, ops[i]? = some o → ∀ e ∈ o.after, Region.binds md e = true → e.on < ops.size ∧ r e.on < r i := by
    intro md h
    refine ⟨fun i => (Region.linearise md ops 0).idxOf i, fun i o ho e he hb => ?_⟩
    have hi : i < ops.size := (Array.getElem?_eq_some_iff.1 ho).1
    simp only [rankE, List.all_eq_true, List.mem_range] at h
    have := h i hi
    rw [ho] at this
    have := Array.all_eq_true_iff_forall_mem.1 this e he
    simpa [hb, Nat.blt_eq] using this
  simp only [edgesOk, Bool.or_eq_true, Bool.and_eq_true] at h
  rcases h with h | ⟨h1, h2⟩
  · refine ⟨id, fun i o ho e he hb => ?_⟩
    have hi : i < ops.size := (Array.getElem?_eq_some_iff.1 ho).1
    simp only [backE, List.all_eq_true, List.mem_range] at h
    have := h i hi
    rw [ho] at this
    have := Array.all_eq_true_iff_forall_mem.1 this e he
    have : e.on < i := by simpa [Nat.blt_eq] using this
    exact ⟨by omega, this⟩
  · cases md with
    | text => exact rank _ h1
    | gc => exact rank _ h2
    | any =>
      obtain ⟨r, hr⟩ := rank _ h1
      refine ⟨r, fun i o ho e he hb => hr i o ho e he ?_⟩
      unfold Region.binds at hb ⊢
      cases hg : e.ground <;> simp_all

theorem mem_ready {md : Region.Mode} {listed : Array Bool} (hs : listed.size = ops.size) {i : Nat} : i ∈ Region.ready md ops listed ↔ i < ops.size ∧ ¬ Lst listed i ∧ ∀ o, ops[i]? = some o → ∀ e ∈ o.after, Region.binds md e = true → Lst listed e.on := by
  unfold Region.ready
  simp only [List.mem_filter, List.mem_range, Bool.and_eq_true, Bool.not_eq_true']
  constructor
  · rintro ⟨h1, h2, h3⟩
    have hl : listed[i]? = some (listed[i]'(by omega)) := by simp [hs, h1]
    refine ⟨h1, fun hL => ?_, fun o ho e he hb => ?_⟩
    · rw [Array.getD_eq_getD_getElem?, hL] at h2; cases h2
    · rw [ho] at h3
      simp only [Option.map_some, Option.getD_some] at h3
      have := Array.all_eq_true_iff_forall_mem.1 h3 e he
      simp only [hb, Bool.not_true, Bool.false_or] at this
      rw [Array.getD_eq_getD_getElem?] at this
      unfold Lst
      cases hx : listed[e.on]? with
      | none => rw [hx] at this; cases this
      | some b => rw [hx] at this; simp at this; rw [this]
  · rintro ⟨h1, h2, h3⟩
    refine ⟨h1, ?_, ?_⟩
    · rw [Array.getD_eq_getD_getElem?]
      have hl : listed[i]? = some (listed[i]'(by omega)) := by simp [hs, h1]
      unfold Lst at h2
      rw [hl] at h2 ⊢
      simpa using h2
    · have ho : ops[i]? = some ops[i] := by simp [h1]
      rw [ho]
      simp only [Option.map_some, Option.getD_some]
      refine Array.all_eq_true_iff_forall_mem.2 fun e he => ?_
      cases hb : Region.binds md e with
      | false => simp
      | true =>
        have := h3 _ ho e he hb
        rw [Array.getD_eq_getD_getElem?]
        unfold Lst at this
        rw [this]; simp

/-- All listed, where none is ready. -/
theorem all_listed {md : Region.Mode} {T : List V} (h : regOkD E ops T = true) {listed : Array Bool} (hs : listed.size = ops.size) (hr : Region.ready md ops listed = []) : ∀ i, i < ops.size → Lst listed i := by
  intro i hi
  have he : edgesOk ops = true := by simp only [regOkD, Bool.and_eq_true] at h; exact h.1
  obtain ⟨r, hr'⟩ := rank_some (md := md) he
  have key : ∀ n i, r i = n → i < ops.size → Lst listed i := by
    intro n
    induction n using Nat.strongRecOn with
    | _ n ih =>
      intro i hn hi
      rcases Classical.em (Lst listed i) with hl | hl
      · exact hl
      · exfalso
        have : i ∈ Region.ready md ops listed := (mem_ready hs).2 ⟨hi, hl, fun o ho e he hb => by
          have h2 := hr' i o ho e he hb
          exact ih (r e.on) (by omega) e.on rfl h2.1⟩
        rw [hr] at this; simp at this
  exact key _ i rfl hi

theorem binds_any {md : Region.Mode} {e : Edge} (h : Region.binds .any e = true) : Region.binds md e = true := by
  unfold Region.binds at h ⊢
  cases hg : e.ground <;> simp_all

/-! ### Slots -/
section
variable {rec : Rec} {s s' : St} (Tr : Trace E rec ops s s')

noncomputable def W (listed : Array Bool) (t : Nat) : Nat → V
  | 0 => s.tmps.getD t .poison
  | i + 1 => match ops[i]? with
    | some o => @ite _ (Lst listed i ∧ o.dst = some t) (Classical.propDecidable _) (Tr.val i) (W listed t i)
    | none => W listed t i
noncomputable def TA (listed : Array Bool) : List V := (List.range s.tmps.length).map fun t => W Tr listed t ops.size

theorem putT_getD (T : List V) (dst : Option Tmp) (v : V) (t : Nat) (ht : t < T.length) : (putT T dst v).getD t .poison = if dst = some t then v else T.getD t .poison := by
  cases dst with
  | none => simp [putT]
  | some d =>
    simp only [putT, Option.some.injEq]
    rw [List.getD_eq_getElem?_getD]
    by_cases hd : d = t
    · subst hd; rw [List.getElem?_set_self ht, if_pos rfl]; rfl
    · rw [List.getElem?_set_ne hd, if_neg hd, List.getD_eq_getElem?_getD]
theorem putT_length (T : List V) (dst : Option Tmp) (v : V) : (putT T dst v).length = T.length := by cases dst <;> simp [putT]
theorem T_length : ∀ i, i ≤ ops.size → (Tr.T i).length = s.tmps.length
  | 0, _ => by rw [Tr.T0]
  | i + 1, hi => by
    have ho : ops[i]? = some (ops[i]'(by omega)) := by simp
    rw [(Tr.step i _ ho).2, putT_length]
    exact T_length i (by omega)
/-- The trace's slots ahead of operation i are those of a listing of all ahead of it. -/
theorem W_agree {listed : Array Bool} {t i : Nat} (ht : t < s.tmps.length) (hi : i ≤ ops.size) (hw : ∀ j o, ops[j]? = some o → o.dst = some t → (Lst listed j ↔ j < i)) : W Tr listed t ops.size = (Tr.T i).getD t .poison := by
  have h1 : ∀ m, m ≤ i → W Tr listed t m = (Tr.T m).getD t .poison := by
    intro m
    induction m with
    | zero => intro _; rw [Tr.T0]; rfl
    | succ m ih =>
      intro hm
      have ho : ops[m]? = some (ops[m]'(by omega)) := by simp
      rw [(Tr.step m _ ho).2, putT_getD _ _ _ _ (by rw [T_length Tr m (by omega)]; exact ht)]
      simp only [W, ho]
      by_cases hd : (ops[m]'(by omega)).dst = some t
      · rw [if_pos ⟨(hw m _ ho hd).2 (by omega), hd⟩, if_pos hd]
      · rw [if_neg (fun h => hd h.2), if_neg hd]; exact ih (by omega)
  have h2 : ∀ m, i ≤ m → m ≤ ops.size → W Tr listed t m = W Tr listed t i := by
    intro m hm
    induction m with
    | zero => intro _; obtain rfl : i = 0 := by omega
              rfl
    | succ m ih =>
      intro hms
      rcases Nat.lt_or_ge m i with hlt | hge
      · obtain rfl : i = m + 1 := by omega
        rfl
      · have ho : ops[m]? = some (ops[m]'(by omega)) := by simp
        simp only [W, ho]
        rw [if_neg (fun h => by have := (hw m _ ho h.2).1 h.1; omega)]
        exact ih hge (by omega)
  rw [h2 ops.size hi (Nat.le_refl _), h1 i (Nat.le_refl _)]
theorem TA_length (listed : Array Bool) : (TA Tr listed).length = s.tmps.length := by simp [TA]
theorem TA_getD (listed : Array Bool) {t : Nat} (ht : t < s.tmps.length) : (TA Tr listed).getD t .poison = W Tr listed t ops.size := by
  unfold TA
  rw [List.getD_eq_getElem?_getD, List.getElem?_map, List.getElem?_range ht]; rfl

theorem Lst_set {listed : Array Bool} {i j : Nat} (hi : i < listed.size) : Lst (listed.setIfInBounds i true) j ↔ (j = i ∨ Lst listed j) := by
  unfold Lst
  by_cases hj : j = i
  · subst hj; simp [hi]
  · rw [Array.getElem?_setIfInBounds_ne (Ne.symm hj)]; simp [hj]

/-- One more listed. -/
theorem TA_put {listed : Array Bool} (hs : listed.size = ops.size) {i : Nat} {o : Oper} (ho : ops[i]? = some o) (hn : ¬ Lst listed i) (hlate : ∀ j q, ops[j]? = some q → i < j → q.dst = o.dst → o.dst ≠ none → ¬ Lst listed j) :
    TA Tr (listed.setIfInBounds i true) = putT (TA Tr listed) o.dst (Tr.val i) := by
  have hi : i < ops.size := (Array.getElem?_eq_some_iff.1 ho).1
  have hset : ∀ j, Lst (listed.setIfInBounds i true) j ↔ (j = i ∨ Lst listed j) := fun j => Lst_set (by omega)
  apply List.ext_getElem
  · rw [putT_length, TA_length, TA_length]
  · intro t h1 h2
    have ht : t < s.tmps.length := by rw [TA_length] at h1; exact h1
    have e1 : (TA Tr (listed.setIfInBounds i true))[t] = (TA Tr (listed.setIfInBounds i true)).getD t .poison := by rw [List.getD_eq_getElem?_getD, List.getElem?_eq_getElem h1]; rfl
    have e2 : (putT (TA Tr listed) o.dst (Tr.val i))[t] = (putT (TA Tr listed) o.dst (Tr.val i)).getD t .poison := by rw [List.getD_eq_getElem?_getD, List.getElem?_eq_getElem h2]; rfl
    rw [e1, e2, TA_getD Tr _ ht, putT_getD _ _ _ _ (by rw [TA_length]; exact ht), TA_getD Tr _ ht]
    by_cases hd : o.dst = some t
    · rw [if_pos hd]
      have : ∀ m, i < m → m ≤ ops.size → W Tr (listed.setIfInBounds i true) t m = Tr.val i := by
        intro m hm
        induction m with
        | zero => omega
        | succ m ih =>
          intro hms
          have hom : ops[m]? = some (ops[m]'(by omega)) := by simp
          simp only [W, hom]
          rcases Nat.lt_or_ge i m with hlt | hge
          · rw [if_neg (fun h => ?_)]
            · exact ih hlt (by omega)
            · rcases (hset m).1 h.1 with h' | h'
              · omega
              · exact hlate m _ hom hlt (by rw [h.2, hd]) (by rw [hd]; simp) h'
          · obtain rfl : m = i := by omega
            rw [ho] at hom
            simp only [Option.some.injEq] at hom
            rw [if_pos ⟨(hset m).2 (.inl rfl), by rw [← hom]; exact hd⟩]
      exact this ops.size hi (Nat.le_refl _)
    · rw [if_neg hd]
      have : ∀ m, m ≤ ops.size → W Tr (listed.setIfInBounds i true) t m = W Tr listed t m := by
        intro m
        induction m with
        | zero => intro _; rfl
        | succ m ih =>
          intro hms
          have hom : ops[m]? = some (ops[m]'(by omega)) := by simp
          simp only [W, hom]
          have hiff : (Lst (listed.setIfInBounds i true) m ∧ (ops[m]'(by omega)).dst = some t) ↔ (Lst listed m ∧ (ops[m]'(by omega)).dst = some t) := by
            rw [hset m]
            constructor
            · rintro ⟨h | h, h'⟩
              · subst h
                rw [ho] at hom
                simp only [Option.some.injEq] at hom
                exact absurd (hom ▸ h') hd
              · exact ⟨h, h'⟩
            · exact fun h => ⟨.inr h.1, h.2⟩
          by_cases hc : Lst listed m ∧ (ops[m]'(by omega)).dst = some t
          · rw [if_pos (hiff.2 hc), if_pos hc]
          · rw [if_neg (fun h => hc (hiff.1 h)), if_neg hc]; exact ih (by omega)
      exact this ops.size (Nat.le_refl _)

/-- A slot that is written by nothing from an operation on. -/
theorem T_stab {i t : Nat} (hst : stab ops i t = true) : ∀ m, i ≤ m → m ≤ ops.size → (Tr.T m).getD t .poison = (Tr.T i).getD t .poison := by
  intro m hm
  induction m with
  | zero => intro _; obtain rfl : i = 0 := by omega
            rfl
  | succ m ih =>
    intro hms
    rcases Nat.lt_or_ge m i with hlt | hge
    · obtain rfl : i = m + 1 := by omega
      rfl
    · have ho : ops[m]? = some (ops[m]'(by omega)) := by simp
      have hne : (ops[m]'(by omega)).dst ≠ some t := by
        simp only [stab, List.all_eq_true, List.mem_range] at hst
        have := hst m (by omega)
        rw [ho] at this
        simp only [Bool.or_eq_true, Nat.blt_eq, Bool.not_eq_true', beq_eq_false_iff_ne] at this
        rcases this with h | h
        · omega
        · exact h
      rw [← ih hge (by omega), (Tr.step m _ ho).2]
      by_cases ht : t < s.tmps.length
      · rw [putT_getD _ _ _ _ (by rw [T_length Tr m (by omega)]; exact ht), if_neg hne]
      · have h1 : (Tr.T m).length ≤ t := by rw [T_length Tr m (by omega)]; omega
        have h2 : (putT (Tr.T m) (ops[m]'(by omega)).dst (Tr.val m)).length ≤ t := by rw [putT_length]; exact h1
        rw [List.getD_eq_getElem?_getD, List.getD_eq_getElem?_getD, List.getElem?_eq_none h1, List.getElem?_eq_none h2]
theorem T_stabO {i : Nat} {x : Operand} (hst : stabO ops i x = true) {m : Nat} (hm : i ≤ m) (hms : m ≤ ops.size) : evalT (Tr.T m) x = evalT (Tr.T i) x := by
  cases x with
  | tmp t => exact T_stab Tr hst m hm hms
  | _ => rfl
theorem kind_final {i : Nat} {o : Op} (hst : stabC ops i o = true) (hi : i ≤ ops.size) : kindT E s'.tmps o = kindT E (Tr.T i) o := by
  rw [← Tr.Tn]
  unfold kindT
  split
  · rename_i f args ts
    rw [T_stabO Tr (x := f) (by simpa [stabC] using hst) hi (Nat.le_refl _)]
  · rfl
end
end
end Go.Sim
end
section
namespace Go.Sim
open Go
set_option linter.unusedVariables false
set_option linter.unusedSimpArgs false

section
variable {E : Env} {rec : Rec} {ops : Array Oper} {s s' : St} {p : Array Oper → Bool} {ok : Nat → Prop} {w : World} {B : Bd}

theorem HR.pusheds {h : Heap} (hh : HR ok w B p h) (bs : List Blk) : HR ok w B p (h.setTop (h.top ++ bs)) := by
  refine ⟨by rw [Heap.length_setTop]; exact hh.pos, fun d j => ?_, hh.inj, hh.lt, hh.okn⟩
  rw [Heap.get_setTop hh.pos]
  split
  · rename_i hd; subst hd
    rw [List.getElem?_append]
    split
    · rw [← Heap.get_top hh.pos]; exact hh.blk 0 j
    · rw [hh.top_lt (by omega)]; trivial
  · exact hh.blk d j
theorem Above.pushes {h : Heap} (hp : 0 < h.length) (bs : List Blk) : Above h (h.setTop (h.top ++ bs)) := by
  intro d j x hx
  rw [Heap.get_setTop hp]
  split
  · rename_i hd; subst hd
    rw [Heap.get_top hp] at hx
    have hlt : j < h.top.length := by
      rcases Nat.lt_or_ge j h.top.length with h1 | h1
      · exact h1
      · rw [List.getElem?_eq_none h1] at hx; cases hx
    rw [List.getElem?_append_left hlt]; exact hx
  · exact hx
/-- What an operation of another kind than e does to the heap. -/
theorem step_not_e {m : Nat} (hS : Sound E.P p rec m) (hq : EqOk E) (hE : FnOk E p) (hKI : KnownIn E) {tmps : List V} {h h' : Heap} {o : Oper} {v : V} (hk : kindT E tmps o.op ≠ .e) (hv : valV E rec ops o tmps h = some (v, h')) :
    ∃ blks : List Blk, h' = h.setTop (h.top ++ blks) ∨ h' = h := by
  simp only [valV, Option.bind_eq_some_iff] at hv
  obtain ⟨b, hb, hv⟩ := hv
  cases b with
  | false =>
    simp only [Bool.false_eq_true, if_false, Option.some.injEq, Prod.mk.injEq] at hv
    exact ⟨[], .inr hv.2.symm⟩
  | true =>
    simp only [if_true] at hv
    cases hkk : kindT E tmps o.op with
    | n => exact ⟨[], .inr (oper_n hkk hv).1⟩
    | r => exact ⟨[], .inr (oper_r hkk hv).1⟩
    | e => exact absurd hkk hk
    | a =>
      obtain ⟨blks, h1, _⟩ := oper_a hS hq hE hKI hkk hv
      exact ⟨blks, .inl h1⟩

variable (Tr : Trace E rec ops s s')

section base
variable {m0 : Nat} (hS : Sound E.P p rec m0) (hq : EqOk E) (hE : FnOk E p) (hKI : KnownIn E)
include hS hq hE hKI


theorem range_not_e {i : Nat} : ∀ (d : Nat), i + d ≤ ops.size → (∀ m o, i ≤ m → m < i + d → ops[m]? = some o → kindT E (Tr.T m) o.op ≠ .e) →
    (Tr.hp (i + d)).length = (Tr.hp i).length ∧ (0 < (Tr.hp i).length → Above (Tr.hp i) (Tr.hp (i + d)) ∧ (Tr.hp i).top.length ≤ (Tr.hp (i + d)).top.length)
  | 0, _, _ => ⟨rfl, fun _ => ⟨Above.refl _, Nat.le_refl _⟩⟩
  | d + 1, hd, hk => by
    obtain ⟨h1, h2⟩ := range_not_e d (by omega) (fun m o h h' => hk m o h (by omega))
    have ho : ops[i + d]? = some (ops[i + d]'(by omega)) := by simp
    have hst := (Tr.step (i + d) _ ho).1
    obtain ⟨blks, h | h⟩ := step_not_e hS hq hE hKI (hk (i + d) _ (by omega) (by omega) ho) hst
    · rw [show i + (d + 1) = i + d + 1 from rfl, h]
      refine ⟨by rw [Heap.length_setTop]; exact h1, fun hp => ?_⟩
      obtain ⟨g1, g2⟩ := h2 hp
      refine ⟨g1.trans (Above.pushes (by rw [h1]; exact hp) blks), ?_⟩
      rw [Heap.top_setTop (by rw [h1]; exact hp)]
      simp; omega
    · rw [show i + (d + 1) = i + d + 1 from rfl, h]; exact ⟨h1, h2⟩

/-- On to the next operation of kind e. -/
theorem advance : ∀ (d i : Nat), i + d = ops.size → HR ok w B p (Tr.hp i) → ∃ k, i ≤ k ∧ k ≤ ops.size ∧ (∀ m o, i ≤ m → m < k → ops[m]? = some o → kindT E (Tr.T m) o.op ≠ .e) ∧
    (∀ o, ops[k]? = some o → kindT E (Tr.T k) o.op = .e) ∧ HR ok w B p (Tr.hp k)
  | 0, i, hd, hh => ⟨i, Nat.le_refl _, by omega, fun m o h h' => by omega, (fun o ho => by rw [Array.getElem?_eq_none (by omega)] at ho; cases ho), hh⟩
  | d + 1, i, hd, hh => by
    have ho : ops[i]? = some (ops[i]'(by omega)) := by simp
    by_cases hk : kindT E (Tr.T i) (ops[i]'(by omega)).op = .e
    · exact ⟨i, Nat.le_refl _, by omega, fun m o h h' => by omega, (fun o ho' => by rw [ho] at ho'; simp only [Option.some.injEq] at ho'; rw [← ho']; exact hk), hh⟩
    · have hst := (Tr.step i _ ho).1
      have hh' : HR ok w B p (Tr.hp (i + 1)) := by
        obtain ⟨blks, h | h⟩ := step_not_e hS hq hE hKI hk hst
        · rw [h]; exact hh.pusheds blks
        · rw [h]; exact hh
      obtain ⟨k, h1, h2, h3, h4, h5⟩ := advance d (i + 1) (by omega) hh'
      refine ⟨k, by omega, h2, fun m o hm hm' ho' => ?_, h4, h5⟩
      rcases Nat.eq_or_lt_of_le hm with rfl | hlt
      · rw [ho] at ho'; simp only [Option.some.injEq] at ho'; rw [← ho']; exact hk
      · exact h3 m o hlt hm' ho'

end base

/-- What holds when these have been listed. -/
structure Inv (p : Array Oper → Bool) (base : Base) (ok0 : Nat → Prop) (B0 : Bd) (w0 : World) (listed : Array Bool) (a : Act) (w : World) : Prop where
  size : listed.size = ops.size
  closed : Closed ops listed
  ex : ∃ (k : Nat) (ok : Nat → Prop) (B : Bd), k ≤ ops.size ∧ (∀ j o, j < k → ops[j]? = some o → kindT E (Tr.T j) o.op = .e → Lst listed j) ∧ (∀ o, ops[k]? = some o → kindT E (Tr.T k) o.op = .e ∧ ¬ Lst listed k) ∧
    Ext ok0 B0 w0 ok B w ∧ HR ok w B p (Tr.hp k) ∧ VRelL ok w B (TA Tr listed) a.tmps.toList ∧ Marks base ok B w a.defers ∧ (Tr.hp k).length = s.heap.length ∧
    ∀ m o, m < k → ops[m]? = some o → kindT E (Tr.T m) o.op = .a → wantedV ops (Tr.T m) o = some true → ¬ Lst listed m → ∀ j, (Tr.hp m).top.length ≤ j → j < (Tr.hp (m + 1)).top.length → B 0 j = .out

noncomputable def cnt (listed : Array Bool) : Nat → Nat
  | 0 => 0
  | m + 1 => cnt listed m + @ite _ (Lst listed m) (Classical.propDecidable _) 0 1
theorem cnt_set {listed : Array Bool} {i : Nat} (hi : i < listed.size) (hn : ¬ Lst listed i) : ∀ m, cnt (listed.setIfInBounds i true) m + (if i < m then 1 else 0) = cnt listed m
  | 0 => by simp [cnt]
  | m + 1 => by
    have ih := cnt_set hi hn m
    simp only [cnt]
    by_cases him : i = m
    · subst him
      rw [if_pos ((Lst_set hi).2 (.inl rfl)), if_neg hn]
      rw [if_neg (by omega)] at ih
      rw [if_pos (by omega)]; omega
    · have hiff : Lst (listed.setIfInBounds i true) m ↔ Lst listed m := by
        rw [Lst_set hi]; exact ⟨fun h => h.resolve_left (Ne.symm him), .inr⟩
      by_cases hc : Lst listed m
      · rw [if_pos (hiff.2 hc), if_pos hc]
        by_cases hlt : i < m
        · rw [if_pos hlt] at ih; rw [if_pos (by omega)]; omega
        · rw [if_neg hlt] at ih; rw [if_neg (by omega)]; omega
      · rw [if_neg (fun h => hc (hiff.1 h)), if_neg hc]
        by_cases hlt : i < m
        · rw [if_pos hlt] at ih; rw [if_pos (by omega)]; omega
        · rw [if_neg hlt] at ih; rw [if_neg (by omega)]; omega
theorem cnt_zero {listed : Array Bool} : ∀ m, cnt listed m = 0 → ∀ i, i < m → Lst listed i
  | 0, _, i, hi => by omega
  | m + 1, h, i, hi => by
    simp only [cnt] at h
    by_cases hc : Lst listed m
    · rcases Nat.lt_succ_iff_lt_or_eq.1 hi with hlt | rfl
      · exact cnt_zero m (by omega) i hlt
      · exact hc
    · rw [if_neg hc] at h; omega

theorem confS_dst_looks {x y : Oper} {t : Tmp} (h1 : x.dst = some t) (h2 : t ∈ y.looksAt ops) : confS ops x y = true ∧ confS ops y x = true := by
  unfold confS
  rw [h1]
  have : (y.looksAt ops).contains t = true := by simpa using h2
  simp [this]
  simp_all
theorem confS_same {x y : Oper} {t : Tmp} (h1 : x.dst = some t) (h2 : y.dst = some t) : confS ops x y = true := by
  unfold confS
  rw [h1, h2]
  simp
theorem kindT_load (T : List V) (t : TypeId) (a : Operand) : kindT E T (.load t a) = .r := rfl

theorem loadV_get {P : Program} {h H : Heap} {t : TypeId} {A v : V} (hl : loadV P h t A = some v) (hg : ∀ d j off ep, A = .pref d j off ep → ∀ b, h.get d j = some b → H.get d j = some b) : loadV P H t A = some v := by
  have key : ∀ n l, h.load A n = some l → H.load A n = some l := by
    intro n l hl0
    clear hl
    cases A with
    | pref d j off ep =>
      simp only [Heap.load] at hl0 ⊢
      cases hgg : h.get d j with
      | none => rw [hgg] at hl0; cases hl0
      | some b => rw [hgg] at hl0; rw [hg d j off ep rfl b hgg]; exact hl0
    | pcon cells off => exact hl0
    | _ => simp [Heap.load] at hl0
  simp only [loadV, Option.bind_eq_some_iff] at hl ⊢
  obtain ⟨g, hgg, hl⟩ := hl
  refine ⟨g, hgg, ?_⟩
  split at hl
  · rename_i ht
    rw [if_pos ht]
    simp only [Option.bind_eq_some_iff, Option.map_eq_some_iff] at hl ⊢
    obtain ⟨n, hn, l, hl, rfl⟩ := hl
    exact ⟨n, hn, l, key _ _ hl, rfl⟩
  · rename_i ht
    rw [if_neg ht]
    simp only [Option.bind_eq_some_iff] at hl ⊢
    obtain ⟨l, hl, hv⟩ := hl
    exact ⟨l, key _ _ hl, hv⟩

theorem storeV_get {P : Program} {h h' : Heap} {t : TypeId} {A x : V} (hs : storeV P h t A x = some h') {A0 : V} (ha : apartV A0 A = true) : h'.length = h.length ∧ ∀ d j off ep, A0 = .pref d j off ep → h'.get d j = h.get d j := by
  simp only [storeV, Option.bind_eq_some_iff] at hs
  obtain ⟨n, hn, hs⟩ := hs
  split at hs
  · unfold Heap.store at hs
    split at hs
    · rename_i d' j' off' ep'
      split at hs
      · split at hs
        · simp only [Option.bind_eq_some_iff, Option.some.injEq] at hs
          obtain ⟨vs, _, rfl⟩ := hs
          refine ⟨by simp [Heap.set], fun d j off ep hA0 => ?_⟩
          subst hA0
          simp only [apartV, Bool.or_eq_true, Bool.not_eq_true', beq_eq_false_iff_ne] at ha
          unfold Heap.get Heap.set
          by_cases hd : d' = d
          · subst hd
            have hj : j ≠ j' := by rcases ha with h | h; exact absurd rfl h; exact h
            by_cases hlt : d' < h.length
            · rw [List.getElem?_set_self hlt]
              simp [List.getElem?_eq_getElem hlt, List.getElem?_set_ne (Ne.symm hj)]
            · rw [List.getElem?_eq_none (by simpa using hlt), List.getElem?_eq_none (by simpa using hlt)]
          · rw [List.getElem?_set_ne hd]
        · cases hs
      · cases hs
    · cases hs
  · cases hs

theorem append_get {P : Program} {h h' : Heap} {ts : List TypeId} {s v A : V} {l : List V} (hs : builtinV P h .append ts (s :: l) = some (v, h')) (ha : apartS A s = true) : h'.length = h.length ∧ ∀ d j off ep, A = .pref d j off ep → h'.get d j = h.get d j := by
  unfold apartS at ha
  split at ha
  · rename_i d0 j0 o0 e0 d' j' off' len' ep' q'
    rcases ts with _ | ⟨t, r⟩
    · rcases l with _ | ⟨x, _ | _⟩ <;> simp [builtinV] at hs
    rcases l with _ | ⟨x, _ | _⟩
    · simp [builtinV] at hs
    · simp only [builtinV] at hs
      unfold appendV at hs
      split at hs
      · simp only [Option.bind_eq_some_iff] at hs
        obtain ⟨k, _, by_, _, z, _, len, _, ⟨n, news⟩, _, hs⟩ := hs
        dsimp only at hs
        split at hs
        · cases hs
        · simp only [Bool.false_eq_true, if_false] at hs
          split at hs
          · split at hs
            · simp only [Option.bind_eq_some_iff, Option.some.injEq, Prod.mk.injEq] at hs
              obtain ⟨news', _, _, rfl⟩ := hs
              refine ⟨by simp [Heap.set], fun d j off ep hA0 => ?_⟩
              cases hA0
              simp only [Bool.or_eq_true, Bool.not_eq_true'] at ha
              have ha : d0 ≠ d' ∨ j0 ≠ j' := by
                rcases ha with h | h
                · left; rintro rfl; simp at h
                · right; rintro rfl; simp at h
              unfold Heap.get Heap.set
              by_cases hd : d' = d0
              · subst hd
                have hj : j0 ≠ j' := by rcases ha with h | h; exact absurd rfl h; exact h
                by_cases hlt : d' < h.length
                · rw [List.getElem?_set_self hlt]
                  simp [List.getElem?_eq_getElem hlt, List.getElem?_set_ne (Ne.symm hj)]
                · rw [List.getElem?_eq_none (by simpa using hlt), List.getElem?_eq_none (by simpa using hlt)]
              · rw [List.getElem?_set_ne hd]
            · cases hs
          · cases hs
      · cases hs
    · simp [builtinV] at hs
  · cases ha

/-- A store to another block than that of an address; or a call that changes none but other ones. -/
def StoreApart (Tr : Trace E rec ops s s') (A : V) (m : Nat) (q : Oper) : Prop := (∃ t b x, q.op = .store t b x ∧ apartV A (evalT (Tr.T m) b) = true) ∨
  (∃ f args ts g F, q.op = .call { callee := .value f, args := args, argTypes := ts } ∧ evalT (Tr.T m) f = .func (.func g) [] [] ∧ E.frame g = true ∧ E.known g = some F ∧ (∀ x ∈ args.toList, argApart A (evalT (Tr.T m) x) = true)) ∨
  ∃ args ts x r, q.op = .call { callee := .builtin .append, args := args, argTypes := ts } ∧ args.toList = x :: r ∧ apartS A (evalT (Tr.T m) x) = true

theorem step_apart (hfr : FrameOk E) {A : V} {m : Nat} {q : Oper} (hq' : ops[m]? = some q) (hsa : StoreApart Tr A m q) : (Tr.hp (m + 1)).length = (Tr.hp m).length ∧ ∀ d j off ep, A = .pref d j off ep → (Tr.hp (m + 1)).get d j = (Tr.hp m).get d j := by
  have hst := (Tr.step m q hq').1
  simp only [valV, Option.bind_eq_some_iff] at hst
  obtain ⟨c, hc, hst⟩ := hst
  cases c with
  | false =>
    simp only [Bool.false_eq_true, if_false, Option.some.injEq, Prod.mk.injEq] at hst
    rw [← hst.2]; exact ⟨rfl, fun _ _ _ _ _ => rfl⟩
  | true =>
    rcases hsa with ⟨t, b, x, hop, ha⟩ | ⟨f, args, ts, g, F, hop, hf, hg, hF, hargs⟩ | ⟨args, ts, x, r, hop, hx, ha⟩
    · simp only [if_true, hop] at hst
      simp only [operV, opV, Option.map_eq_some_iff, Prod.mk.injEq] at hst
      obtain ⟨h', hs, _, rfl⟩ := hst
      exact storeV_get hs ha
    · simp only [if_true, hop] at hst
      simp only [operV, hf, applyV, List.nil_append, List.append_nil, callV, hF] at hst
      obtain ⟨g1, g2⟩ := hfr g F hg hF _ _ _ _ hst
      refine ⟨g1, fun d j off ep hA => g2 d j fun v hv d' j' o e hve => ?_⟩
      subst hA
      obtain ⟨x, hx, rfl⟩ := List.mem_map.1 hv
      have := hargs x hx
      rw [hve] at this
      simp only [argApart, apartV, Bool.or_eq_true, Bool.not_eq_true', beq_eq_false_iff_ne] at this
      rcases this with h | h
      · exact .inl (Ne.symm h)
      · exact .inr (Ne.symm h)
    · simp only [if_true, hop] at hst
      simp only [operV, opV, hx, List.map_cons] at hst
      exact append_get hst ha

section
variable {m0 : Nat} (hS : Sound E.P p rec m0) (hq : EqOk E) (hE : FnOk E p) (hKI : KnownIn E)
include hS hq hE hKI

theorem range_apart {A : V} {i : Nat} : ∀ (d : Nat), i + d ≤ ops.size → (∀ m q, i ≤ m → m < i + d → ops[m]? = some q → kindT E (Tr.T m) q.op ≠ .e ∨ StoreApart Tr A m q) →
    (Tr.hp (i + d)).length = (Tr.hp i).length ∧ (0 < (Tr.hp i).length → ∀ d' j off ep, A = .pref d' j off ep → ∀ b, (Tr.hp i).get d' j = some b → (Tr.hp (i + d)).get d' j = some b)
  | 0, _, _ => ⟨rfl, fun _ _ _ _ _ _ _ h => h⟩
  | d + 1, hd, hk => by
    obtain ⟨h1, h2⟩ := range_apart d (by omega) (fun m o h h' => hk m o h (by omega))
    have ho : ops[i + d]? = some (ops[i + d]'(by omega)) := by simp
    rw [show i + (d + 1) = i + d + 1 from rfl]
    rcases hk (i + d) _ (by omega) (by omega) ho with hne | hsa
    · obtain ⟨blks, h | h⟩ := step_not_e hS hq hE hKI hne (Tr.step (i + d) _ ho).1
      · rw [h]
        refine ⟨by rw [Heap.length_setTop]; exact h1, fun hp d' j off ep hA b hb => ?_⟩
        exact Above.pushes (by rw [h1]; exact hp) blks _ _ _ (h2 hp d' j off ep hA b hb)
      · rw [h]; exact ⟨h1, h2⟩
    · obtain ⟨g1, g2⟩ := step_apart Tr hE.frame ho hsa
      exact ⟨g1.trans h1, fun hp d' j off ep hA b hb => by rw [g2 d' j off ep hA]; exact h2 hp d' j off ep hA b hb⟩
omit hS hq hKI in
theorem range_apart_back {A : V} {k : Nat} : ∀ (d : Nat), k + d ≤ ops.size → (∀ m q, k ≤ m → m < k + d → ops[m]? = some q → (kindT E (Tr.T m) q.op = .n ∨ kindT E (Tr.T m) q.op = .r) ∨ StoreApart Tr A m q) →
    ∀ d' j off ep, A = .pref d' j off ep → (Tr.hp (k + d)).get d' j = (Tr.hp k).get d' j
  | 0, _, _ => fun _ _ _ _ _ => rfl
  | d + 1, hd, hk => by
    have h2 := range_apart_back d (by omega) (fun m o h h' => hk m o h (by omega))
    have ho : ops[k + d]? = some (ops[k + d]'(by omega)) := by simp
    intro d' j off ep hA
    rw [show k + (d + 1) = k + d + 1 from rfl]
    rcases hk (k + d) _ (by omega) (by omega) ho with hne | hsa
    · have hst := (Tr.step (k + d) _ ho).1
      simp only [valV, Option.bind_eq_some_iff] at hst
      obtain ⟨c, hc, hst⟩ := hst
      have : Tr.hp (k + d + 1) = Tr.hp (k + d) := by
        cases c with
        | false =>
          simp only [Bool.false_eq_true, if_false, Option.some.injEq, Prod.mk.injEq] at hst
          exact hst.2.symm
        | true =>
          simp only [if_true] at hst
          rcases hne with h | h
          · exact (oper_n h hst).1
          · exact (oper_r h hst).1
      rw [this]; exact h2 d' j off ep hA
    · rw [(step_apart Tr hE.frame ho hsa).2 d' j off ep hA]; exact h2 d' j off ep hA
end

section
variable {m : Nat} (hS : Sound E.P p rec m) (hq : EqOk E) (hE : FnOk E p) (hK : KnownOk E p) (hKI : KnownIn E) (hok : regOkD E ops s'.tmps = true)
include hok
/-- Of two operations, by the kinds that they have in the trace. -/
theorem pair_of {i j : Nat} {o q : Oper} (ho : ops[i]? = some o) (hq' : ops[j]? = some q) (hj : j < i) : reach ops 8 i j = true ∨ (confS ops q o = false ∧ (confK (kindT E (Tr.T j) q.op) (kindT E (Tr.T i) o.op) = false ∨
    disj E s'.tmps ops i j o q = true ∨ disj E s'.tmps ops j i q o = true)) := by
  have hi : i < ops.size := (Array.getElem?_eq_some_iff.1 ho).1
  obtain ⟨_, h1, h2⟩ := regOkD_at hok ho
  obtain ⟨_, h3, _⟩ := regOkD_at hok hq'
  have := h2 j q hj hq'
  rw [kind_final Tr h1 (by omega), kind_final Tr h3 (by omega)] at this
  exact this
include Tr in
theorem reach_S {i j : Nat} {o q : Oper} (ho : ops[i]? = some o) (hq' : ops[j]? = some q) (hj : j < i) (hc : confS ops q o = true) : reach ops 8 i j = true := by
  rcases pair_of Tr hok ho hq' hj with h | ⟨h, _⟩
  · exact h
  · rw [hc] at h; cases h
/-- What two operations of which one is a load and the other a store tell. -/
theorem of_disj {i j : Nat} {o q : Oper} (ho : ops[i]? = some o) (hq' : ops[j]? = some q) (hd : disj E s'.tmps ops i j o q = true) : ∃ t a, o.op = .load t a ∧ StoreApart Tr (evalT (Tr.T i) a) j q ∧
    (i < j ∨ ∀ m x, j < m → m < i → ops[m]? = some x → kindT E (Tr.T m) x.op ≠ .a) := by
  have hi : i < ops.size := (Array.getElem?_eq_some_iff.1 ho).1
  have hjs : j < ops.size := (Array.getElem?_eq_some_iff.1 hq').1
  have hnew : noNew E s'.tmps ops i j = true → (i < j ∨ ∀ m x, j < m → m < i → ops[m]? = some x → kindT E (Tr.T m) x.op ≠ .a) := by
    intro e4
    simp only [noNew, Bool.or_eq_true, Nat.blt_eq, List.all_eq_true, List.mem_range] at e4
    rcases e4 with h | h
    · exact .inl h
    · refine .inr fun m x hm1 hm2 hx hka => ?_
      have := h m hm2
      rw [hx] at this
      simp only [Nat.ble_eq, Bool.not_eq_true', beq_eq_false_iff_ne] at this
      rcases this with h | h
      · omega
      · rw [kind_final Tr (regOkD_at hok hx).2.1 (by omega)] at h
        exact h hka
  unfold disj at hd
  split at hd
  · rename_i t a t' b x h1 h2
    simp only [Bool.and_eq_true] at hd
    obtain ⟨⟨⟨e1, e2⟩, e3⟩, e4⟩ := hd
    rw [← Tr.Tn, T_stabO Tr e1 (by omega) (Nat.le_refl _), T_stabO Tr e2 (by omega) (Nat.le_refl _)] at e3
    exact ⟨t, a, h1, .inl ⟨t', b, x, h2, e3⟩, hnew e4⟩
  · rename_i t a f args ts h1 h2
    split at hd
    · rename_i g hf
      simp only [Bool.and_eq_true, List.all_eq_true] at hd
      obtain ⟨⟨⟨⟨⟨⟨e0, e1⟩, _⟩, e2⟩, e3⟩, e4⟩, e5⟩ := hd
      obtain ⟨F, hF⟩ := Option.isSome_iff_exists.1 e1
      rw [← Tr.Tn, T_stabO Tr e3 (by omega) (Nat.le_refl _)] at hf
      refine ⟨t, a, h1, .inr (.inl ⟨f, args, ts, g, F, h2, hf, e0, hF, fun x hx => ?_⟩), hnew e5⟩
      obtain ⟨k1, k2⟩ := e4 x hx
      rw [← Tr.Tn, T_stabO Tr e2 (by omega) (Nat.le_refl _), T_stabO Tr k1 (by omega) (Nat.le_refl _)] at k2
      exact k2
    · cases hd
  · rename_i t a args ts h1 h2
    split at hd
    · rename_i x r hx
      simp only [Bool.and_eq_true] at hd
      obtain ⟨⟨⟨e1, e2⟩, e3⟩, e4⟩ := hd
      rw [← Tr.Tn, T_stabO Tr e1 (by omega) (Nat.le_refl _), T_stabO Tr e2 (by omega) (Nat.le_refl _)] at e3
      exact ⟨t, a, h1, .inr (.inr ⟨args, ts, x, r, h2, hx, e3⟩), hnew e4⟩
    · cases hd
  · cases hd
omit hok in
theorem not_disj {i j : Nat} {o q : Oper} (ho : ops[i]? = some o) (hne : kindT E (Tr.T i) o.op ≠ .r) : disj E s'.tmps ops i j o q = false := by
  cases h : disj E s'.tmps ops i j o q with
  | false => rfl
  | true =>
    unfold disj at h
    split at h
    · rename_i t a t' b x h1 h2
      rw [h1] at hne
      exact absurd rfl hne
    · rename_i t a f args ts h1 h2
      rw [h1] at hne
      exact absurd rfl hne
    · rename_i t a args ts h1 h2
      rw [h1] at hne
      exact absurd rfl hne
    · cases h
/-- One of kind e and one of kind e or a. -/
theorem reach_ea {i j : Nat} {o q : Oper} (ho : ops[i]? = some o) (hq' : ops[j]? = some q) (hj : j < i) (h : (kindT E (Tr.T i) o.op = .e ∧ (kindT E (Tr.T j) q.op = .e ∨ kindT E (Tr.T j) q.op = .a)) ∨ (kindT E (Tr.T j) q.op = .e ∧ (kindT E (Tr.T i) o.op = .e ∨ kindT E (Tr.T i) o.op = .a))) :
    reach ops 8 i j = true := by
  rcases pair_of Tr hok ho hq' hj with h' | ⟨_, h' | h' | h'⟩
  · exact h'
  · rcases h with ⟨h1, h2 | h2⟩ | ⟨h1, h2 | h2⟩ <;> simp [confK, h1, h2] at h'
  · rw [not_disj Tr ho (by rcases h with ⟨h1, h2 | h2⟩ | ⟨h1, h2 | h2⟩ <;> simp [h1, h2])] at h'; cases h'
  · rw [not_disj Tr hq' (by rcases h with ⟨h1, h2 | h2⟩ | ⟨h1, h2 | h2⟩ <;> simp [h1, h2])] at h'; cases h'
/-- One of kind r and one of kind e. -/
theorem reach_re {i j : Nat} {o q : Oper} (ho : ops[i]? = some o) (hq' : ops[j]? = some q) (hr : kindT E (Tr.T i) o.op = .r) (he : kindT E (Tr.T j) q.op = .e) : (i < j → reach ops 8 j i = true ∨ disj E s'.tmps ops i j o q = true) ∧
    (j < i → reach ops 8 i j = true ∨ disj E s'.tmps ops i j o q = true) := by
  constructor
  · intro hj
    rcases pair_of Tr hok hq' ho hj with h' | ⟨_, h' | h' | h'⟩
    · exact .inl h'
    · simp [confK, hr, he] at h'
    · rw [not_disj Tr hq' (by simp [he])] at h'; cases h'
    · exact .inr h'
  · intro hj
    rcases pair_of Tr hok ho hq' hj with h' | ⟨_, h' | h' | h'⟩
    · exact .inl h'
    · simp [confK, hr, he] at h'
    · exact .inr h'
    · rw [not_disj Tr hq' (by simp [he])] at h'; cases h'

include hS hq hE hK hKI
theorem inv_run (md : Region.Mode) {F : Fence} (hF : FW F) {base : Base} {ok0 : Nat → Prop} {B0 : Bd} {w0 : World} {Q : Exit → Act → World → Prop} (hfn : s'.fn = s.fn)
    (hQ : ∀ ok' B' w' a', Ext ok0 B0 w0 ok' B' w' → SR p base s' ok' B' w' a' → s'.heap.length = s.heap.length → Q .normal a' w') :
    ∀ (fuel : Nat) (listed : Array Bool) (a : Act) (w : World), Inv Tr p base ok0 B0 w0 listed a w → cnt listed ops.size ≤ fuel → wpAnyIn F 0 E.P md ops Q fuel listed a w := by
  have done : ∀ (listed : Array Bool) (a : Act) (w : World), Inv Tr p base ok0 B0 w0 listed a w → Region.ready md ops listed = [] → Q .normal a w := by
    intro listed a w hI hr
    have hall := all_listed hok hI.size hr
    obtain ⟨k, ok, B, hk, h1, h2, hx, hh, ht, hm, hl, _⟩ := hI.ex
    have hkn : k = ops.size := by
      rcases Nat.lt_or_eq_of_le hk with hlt | h
      · have ho : ops[k]? = some (ops[k]'hlt) := by simp
        exact absurd (hall k hlt) (h2 _ ho).2
      · exact h
    subst hkn
    rw [Tr.hn] at hh hl
    have hTA : TA Tr listed = s'.tmps := by
      rw [← Tr.Tn]
      apply List.ext_getElem
      · rw [TA_length, T_length Tr _ (Nat.le_refl _)]
      · intro t h1 h2
        have htl : t < s.tmps.length := by rw [TA_length] at h1; exact h1
        have e1 : (TA Tr listed)[t] = (TA Tr listed).getD t .poison := by rw [List.getD_eq_getElem?_getD, List.getElem?_eq_getElem h1]; rfl
        have e2 : (Tr.T ops.size)[t] = (Tr.T ops.size).getD t .poison := by rw [List.getD_eq_getElem?_getD, List.getElem?_eq_getElem h2]; rfl
        rw [e1, e2, TA_getD Tr _ htl]
        exact W_agree Tr htl (Nat.le_refl _) fun j o ho _ => ⟨fun _ => (Array.getElem?_eq_some_iff.1 ho).1, fun h => hall j h⟩
    rw [hTA] at ht
    exact hQ ok B w a hx ⟨hh, ht, hm⟩ hl
  intro fuel
  induction fuel with
  | zero =>
    intro listed a w hI hc
    have hr : Region.ready md ops listed = [] := by
      cases hr : Region.ready md ops listed with
      | nil => rfl
      | cons i r =>
        have hi : i ∈ Region.ready md ops listed := by rw [hr]; simp
        obtain ⟨h1, h2, _⟩ := (mem_ready hI.size).1 hi
        exact absurd (cnt_zero ops.size (by omega) i h1) h2
    exact ⟨hr, done listed a w hI hr⟩
  | succ fuel ih =>
    intro listed a w hI hc
    refine ⟨fun hr => done listed a w hI hr, fun i hi => ?_⟩
    obtain ⟨hin, hnl, hedges⟩ := (mem_ready hI.size).1 hi
    have ho : ops[i]? = some (ops[i]'hin) := by simp
    generalize ops[i]'hin = o at ho
    have hcnt : cnt (listed.setIfInBounds i true) ops.size ≤ fuel := by
      have := cnt_set (listed := listed) (i := i) (by rw [hI.size]; exact hin) hnl ops.size
      rw [if_pos hin] at this; omega
    -- what is ahead is listed, what is behind is not
    have before : ∀ j, reach ops 8 i j = true → Lst listed j := fun j hr =>
      reach_listed hI.closed 8 i j (fun o' ho' e he hb => hedges o' ho' e he (binds_any hb)) hr
    have behind : ∀ j, reach ops 8 j i = true → ¬ Lst listed j := fun j hr hL =>
      hnl (reach_listed hI.closed 8 j i (fun o' ho' e he hb => hI.closed j o' hL ho' e he hb) hr)
    obtain ⟨k, ok, B, hk, hkl, hke, hx, hh, ht, hm, hl, hout⟩ := hI.ex
    have hTl : (TA Tr listed).length = (Tr.T i).length := by rw [TA_length, T_length Tr i (by omega)]
    have hagree : ∀ t ∈ o.looksAt ops, (TA Tr listed).getD t .poison = (Tr.T i).getD t .poison := by
      intro t hto
      by_cases htl : t < s.tmps.length
      · rw [TA_getD Tr _ htl]
        refine W_agree Tr htl (by omega) fun j q hq' hd => ?_
        obtain ⟨c1, c2⟩ := confS_dst_looks hd hto
        rcases Nat.lt_trichotomy j i with hlt | rfl | hgt
        · exact ⟨fun _ => hlt, fun _ => before j (reach_S Tr hok ho hq' hlt c1)⟩
        · exact ⟨fun h => absurd h hnl, fun h => by omega⟩
        · exact ⟨fun h => absurd h (behind j (reach_S Tr hok hq' ho hgt c2)), fun h => by omega⟩
      · have hg1 : (TA Tr listed).length ≤ t := by rw [TA_length]; exact Nat.le_of_not_lt htl
        have hg2 : (Tr.T i).length ≤ t := by rw [T_length Tr i (by omega)]; exact Nat.le_of_not_lt htl
        rw [List.getD_eq_getElem?_getD, List.getD_eq_getElem?_getD, List.getElem?_eq_none hg1, List.getElem?_eq_none hg2]
    obtain ⟨hval, hTs⟩ := Tr.step i o ho
    rw [← valV_congr hTl hagree] at hval
    have hval0 := hval
    simp only [valV, Option.bind_eq_some_iff] at hval
    obtain ⟨b, hb, hval⟩ := hval
    have hwant := wanted_rel (l := a.tmps) hb ht
    have hkT : kindT E (TA Tr listed) o.op = kindT E (Tr.T i) o.op := by
      unfold kindT
      split
      · rename_i f args ts heq
        rw [evalT_congr hagree f (by rw [heq]; simp [Op.operands, Call.operands])]
      · rfl
    have hlate : ∀ j q, ops[j]? = some q → i < j → q.dst = o.dst → o.dst ≠ none → ¬ Lst listed j := by
      intro j q hq' hj hd hne
      cases hod : o.dst with
      | none => exact absurd hod hne
      | some t => exact behind j (reach_S Tr hok hq' ho hj (confS_same hod (by rw [hd, hod])))
    have hTA := TA_put Tr hI.size ho hnl hlate
    have hset : ∀ j, Lst (listed.setIfInBounds i true) j ↔ (j = i ∨ Lst listed j) := fun j => Lst_set (by rw [hI.size]; exact hin)
    have hclosed' : Closed ops (listed.setIfInBounds i true) := by
      intro j q hL hq' e he hbd
      rcases (hset j).1 hL with rfl | hL
      · exact (hset _).2 (.inr (hedges q hq' e he (binds_any hbd)))
      · exact (hset _).2 (.inr (hI.closed j q hL hq' e he hbd))
    have hsize' : (listed.setIfInBounds i true).size = ops.size := by simpa using hI.size
    -- an operation of kind e from the next on is not listed
    have late : ∀ m q, ops[m]? = some q → k ≤ m → kindT E (Tr.T m) q.op = .e → ¬ Lst listed m := by
      intro m q hq' hkm hkd hL
      rcases Nat.eq_or_lt_of_le hkm with rfl | hlt
      · exact (hke q hq').2 hL
      · have hoq : ops[k]? = some (ops[k]'(by have := (Array.getElem?_eq_some_iff.1 hq').1; omega)) := by simp
        obtain ⟨e1, e2⟩ := hke _ hoq
        exact e2 (reach_listed hI.closed 8 m k (fun o' ho' e he hb => hI.closed m o' hL ho' e he hb) (reach_ea Tr hok hq' hoq hlt (.inl ⟨hkd, .inl e1⟩)))
    -- behind an operation of kind e (or one not wanted) that is the next
    have next_e : ∀ (ok' : Nat → Prop) (B' : Bd) (w' : World) (v' : Value), i = k → kindT E (Tr.T i) o.op = .e → Ext ok0 B0 w0 ok' B' w' → HR ok' w' B' p (Tr.hp (i + 1)) → VRelL ok' w' B' (TA Tr listed) a.tmps.toList → VRel ok' w' B' (Tr.val i) v' →
        Marks base ok' B' w' a.defers → (Tr.hp (i + 1)).length = s.heap.length → wpAnyIn F 0 E.P md ops Q fuel (listed.setIfInBounds i true) (a.put o.dst v') w' := by
      intro ok' B' w' v' hik hko hx' hh' ht' hv' hm' hl'
      refine ih _ _ _ ⟨hsize', hclosed', ?_⟩ hcnt
      obtain ⟨k', g1, g2, g3, g4, g5⟩ := advance Tr hS hq hE hKI (ops.size - (i + 1)) (i + 1) (by omega) hh'
      have hrange := range_not_e Tr hS hq hE hKI (i := i + 1) (k' - (i + 1)) (by omega) (fun m o h h' => g3 m o h (by omega))
      rw [show i + 1 + (k' - (i + 1)) = k' from by omega] at hrange
      refine ⟨k', ok', B', g2, fun j q hj hq' hkj => ?_, fun q hq' => ⟨g4 q hq', fun hL => ?_⟩, hx', g5, by rw [hTA]; exact put_rel ht' o.dst hv', by rw [put_defers]; exact hm', by rw [hrange.1]; exact hl', fun m' q hm1 hq' hka hw' hL j hj1 hj2 => ?_⟩
      · rcases Nat.lt_trichotomy j i with hlt | rfl | hgt
        · exact (hset j).2 (.inr (hkl j q (by omega) hq' hkj))
        · exact (hset j).2 (.inl rfl)
        · exact absurd hkj (g3 j q (by omega) hj hq')
      · rcases (hset k').1 hL with rfl | hL
        · omega
        · exact late k' q hq' (by omega) (g4 q hq') hL
      · have hmi : ¬ m' < i := fun hlt => hL ((hset m').2 (.inr (before m' (reach_ea Tr hok ho hq' hlt (.inl ⟨hko, .inr hka⟩)))))
        have hmne : m' ≠ i := fun e => hL ((hset m').2 (.inl e))
        have hr2 := range_not_e Tr hS hq hE hKI (i := i + 1) (m' - (i + 1)) (by omega) (fun m o h h' => g3 m o h (by omega))
        rw [show i + 1 + (m' - (i + 1)) = m' from by omega] at hr2
        exact hh'.top_lt (Nat.le_trans (hr2.2 hh'.pos).2 hj1)
    -- behind any other
    have next_o : ∀ (ok' : Nat → Prop) (B' : Bd) (w' : World) (v' : Value), i ≠ k → Ext ok B w ok' B' w' → HR ok' w' B' p (Tr.hp k) → VRel ok' w' B' (Tr.val i) v' →
        (∀ m q, m < k → ops[m]? = some q → kindT E (Tr.T m) q.op = .a → wantedV ops (Tr.T m) q = some true → ¬ Lst listed m → m ≠ i → ∀ j, (Tr.hp m).top.length ≤ j → j < (Tr.hp (m + 1)).top.length → B' 0 j = .out) →
        wpAnyIn F 0 E.P md ops Q fuel (listed.setIfInBounds i true) (a.put o.dst v') w' := by
      intro ok' B' w' v' hik hx' hh' hv' hout'
      refine ih _ _ _ ⟨hsize', hclosed', k, ok', B', hk, fun j q hj hq' hkj => (hset j).2 (.inr (hkl j q hj hq' hkj)), fun q hq' => ⟨(hke q hq').1, fun hL => ?_⟩, hx.trans hx', hh', by rw [hTA]; exact put_rel (hx'.vrelL hh ht) o.dst hv',
        by rw [put_defers]; exact Marks.ext hm hx', hl, fun m' q hm1 hq' hka hw' hL => hout' m' q hm1 hq' hka hw' (fun h => hL ((hset m').2 (.inr h))) (fun e => hL ((hset m').2 (.inl e)))⟩ hcnt
      rcases (hset k).1 hL with h | h
      · exact hik h.symm
      · exact (hke q hq').2 h
    unfold wpOpIn
    simp only [ho, hwant]
    cases b with
    | false =>
      simp only [Bool.false_eq_true, if_false, Option.some.injEq, Prod.mk.injEq] at hval ⊢
      obtain ⟨hv1, hv2⟩ := hval
      have hu : VRel ok w B (Tr.val i) undef := by rw [← hv1]; simp only [V.undef, VRel]; exact ⟨[], rfl, rfl⟩
      refine ⟨fun f _ => hF.fn f, ?_⟩
      by_cases hik : i = k
      · refine next_e ok B w undef hik (by rw [hik]; exact (hke o (by rw [← hik]; exact ho)).1) hx (by rw [← hv2, hik]; exact hh) ht hu hm (by rw [← hv2, hik]; exact hl)
      · exact next_o ok B w undef hik (Ext.refl ok B w) hh hu fun m q h1 h2 h3 h4 h5 _ => hout m q h1 h2 h3 h4 h5
    | true =>
      simp only [if_true] at hval ⊢
      by_cases hko : kindT E (Tr.T i) o.op = .e
      · have hik : i = k := by
          rcases Nat.lt_trichotomy i k with hlt | h | hgt
          · exact absurd (hkl i o hlt ho hko) hnl
          · exact h
          · have hoq : ops[k]? = some (ops[k]'(by omega)) := by simp
            obtain ⟨e1, e2⟩ := hke _ hoq
            exact absurd (before k (reach_ea Tr hok ho hoq hgt (.inl ⟨hko, .inl e1⟩))) e2
        have hh2 : HR ok w B p (Tr.hp i) := by rw [hik]; exact hh
        refine oper_sound hS hq hE hK hKI hF hval hh2 ht ?_
        intro ok' B' w' v' hA
        exact next_e ok' B' w' v' hik hko (hx.trans hA.ext) hA.heap (hA.ext.vrelL hh2 ht) hA.val (Marks.ext hm hA.ext) (by rw [hA.len, hik]; exact hl)
      · have hne : i ≠ k := fun e => hko (by rw [e]; exact (hke o (by rw [← e]; exact ho)).1)
        have hlen : ∀ j, j ≤ k → i ≤ j → (∀ m q, i ≤ m → m < j → ops[m]? = some q → kindT E (Tr.T m) q.op ≠ .e) → (Tr.hp j).length = (Tr.hp i).length ∧ (0 < (Tr.hp i).length → Above (Tr.hp i) (Tr.hp j) ∧ (Tr.hp i).top.length ≤ (Tr.hp j).top.length) := by
          intro j hj hij hno
          have := range_not_e Tr hS hq hE hKI (i := i) (j - i) (by omega) (fun m q h1 h2 => hno m q h1 (by omega))
          rwa [show i + (j - i) = j from by omega] at this
        cases hkk : kindT E (Tr.T i) o.op with
        | e => exact absurd hkk hko
        | n =>
          have hn := (oper_n (by rw [hkT]; exact hkk) hval).2 (Tr.hp k)
          exact wp_nr hS hq hE hKI hF (.inl (by rw [hkT]; exact hkk)) hn hh ht fun ok' w' c hx' hh' hv' => next_o ok' B w' c hne hx' hh' hv' fun m q h1 h2 h3 h4 h5 _ => hout m q h1 h2 h3 h4 h5
        | r =>
          have hrk : operV E rec (TA Tr listed) (Tr.hp k) o.op = some (Tr.val i, Tr.hp k) := by
            -- what of kind e lies between is a store to another block
            have hbt : ∀ m q, ops[m]? = some q → kindT E (Tr.T m) q.op = .e → ((i < m ∧ m < k) ∨ (k ≤ m ∧ m < i)) → disj E s'.tmps ops i m o q = true := by
              intro m q hq' hkd hbt
              obtain ⟨c1, c2⟩ := reach_re Tr hok ho hq' hkk hkd
              rcases hbt with ⟨h1, h2⟩ | ⟨h1, h2⟩
              · rcases c1 h1 with h | h
                · exact absurd (hkl m q h2 hq' hkd) (behind m h)
                · exact h
              · rcases c2 h2 with h | h
                · exact absurd (before m h) (late m q hq' h1 hkd)
                · exact h
            by_cases hno : ∃ m q, ops[m]? = some q ∧ kindT E (Tr.T m) q.op = .e ∧ ((i < m ∧ m < k) ∨ (k ≤ m ∧ m < i))
            · obtain ⟨m0, q0, hq0, hk0, hb0⟩ := hno
              obtain ⟨t, x, hop, _, _⟩ := of_disj Tr hok ho hq0 (hbt m0 q0 hq0 hk0 hb0)
              have hA : evalT (TA Tr listed) x = evalT (Tr.T i) x := evalT_congr hagree x (by rw [hop]; simp [Op.operands])
              rw [hop] at hval ⊢
              simp only [operV, opV, Option.map_eq_some_iff, Prod.mk.injEq] at hval ⊢
              obtain ⟨v1, hv1, rfl', _⟩ := hval
              refine ⟨v1, loadV_get hv1 ?_, rfl', trivial⟩
              rw [hA]
              intro d j off ep hAe b hgb
              rcases Nat.lt_or_gt_of_ne hne with hlt | hgt
              · have hra := range_apart Tr hS hq hE hKI (A := evalT (Tr.T i) x) (i := i) (k - i) (by omega) fun m q h1 h2 hq' => by
                  by_cases hke' : kindT E (Tr.T m) q.op = .e
                  · have him : i < m := by
                      rcases Nat.eq_or_lt_of_le h1 with rfl | h
                      · rw [ho] at hq'; simp only [Option.some.injEq] at hq'; subst hq'; exact absurd hke' hko
                      · exact h
                    obtain ⟨t2, x2, hop2, hsa, _⟩ := of_disj Tr hok ho hq' (hbt m q hq' hke' (.inl ⟨him, by omega⟩))
                    rw [hop] at hop2
                    cases hop2
                    exact .inr hsa
                  · exact .inl hke'
                rw [show i + (k - i) = k from by omega] at hra
                exact hra.2 (by rw [← hra.1]; exact hh.pos) d j off ep hAe b hgb
              · have hoq : ops[k]? = some (ops[k]'(by omega)) := by simp
                obtain ⟨_, _, _, _, hnoa⟩ := of_disj Tr hok ho hoq (hbt k _ hoq (hke _ hoq).1 (.inr ⟨Nat.le_refl _, hgt⟩))
                have hnoa : ∀ m x, k < m → m < i → ops[m]? = some x → kindT E (Tr.T m) x.op ≠ .a := by
                  rcases hnoa with h | h
                  · omega
                  · exact h
                have hrb := range_apart_back Tr hE (A := evalT (Tr.T i) x) (k := k) (i - k) (by omega) fun m q h1 h2 hq' => by
                  by_cases hke' : kindT E (Tr.T m) q.op = .e
                  · obtain ⟨t2, x2, hop2, hsa, _⟩ := of_disj Tr hok ho hq' (hbt m q hq' hke' (.inr ⟨h1, by omega⟩))
                    rw [hop] at hop2
                    cases hop2
                    exact .inr hsa
                  · left
                    have hkm : k < m := by
                      rcases Nat.eq_or_lt_of_le h1 with rfl | h
                      · exact absurd (hke q hq').1 hke'
                      · exact h
                    have := hnoa m q hkm (by omega) hq'
                    cases hkx : kindT E (Tr.T m) q.op with
                    | n => exact .inl rfl
                    | r => exact .inr rfl
                    | a => exact absurd hkx this
                    | e => exact absurd hkx hke'
                rw [show k + (i - k) = i from by omega] at hrb
                rw [← hrb d j off ep hAe]; exact hgb
            · have hno' : ∀ m q, ops[m]? = some q → ((i < m ∧ m < k) ∨ (k ≤ m ∧ m < i)) → kindT E (Tr.T m) q.op ≠ .e := fun m q h1 h2 h3 => hno ⟨m, q, h1, h3, h2⟩
              have hlt : i < k := by
                rcases Nat.lt_or_gt_of_ne hne with h | h
                · exact h
                · have hoq : ops[k]? = some (ops[k]'(by omega)) := by simp
                  exact absurd (hke _ hoq).1 (hno' k _ hoq (.inr ⟨Nat.le_refl _, h⟩))
              obtain ⟨l1, l2⟩ := hlen k (Nat.le_refl _) (by omega) fun m q h1 h2 hq' => by
                rcases Nat.eq_or_lt_of_le h1 with rfl | h
                · rw [ho] at hq'; simp only [Option.some.injEq] at hq'; subst hq'; exact hko
                · exact hno' m q hq' (.inl ⟨h, h2⟩)
              exact (oper_r (by rw [hkT]; exact hkk) hval).2 _ (l2 (by rw [← l1]; exact hh.pos)).1
          exact wp_nr hS hq hE hKI hF (.inr (by rw [hkT]; exact hkk)) hrk hh ht fun ok' w' c hx' hh' hv' => next_o ok' B w' c hne hx' hh' hv' fun m q h1 h2 h3 h4 h5 _ => hout m q h1 h2 h3 h4 h5
        | a =>
          have hlt : i < k := by
            rcases Nat.lt_or_gt_of_ne hne with h | h
            · exact h
            · have hoq : ops[k]? = some (ops[k]'(by omega)) := by simp
              obtain ⟨e1, e2⟩ := hke _ hoq
              exact absurd (before k (reach_ea Tr hok ho hoq h (.inr ⟨e1, .inr hkk⟩))) e2
          have hnoe : ∀ m q, i ≤ m → m < k → ops[m]? = some q → kindT E (Tr.T m) q.op ≠ .e := by
            intro m q h1 h2 hq' hkq
            rcases Nat.eq_or_lt_of_le h1 with rfl | h
            · rw [ho] at hq'; simp only [Option.some.injEq] at hq'; subst hq'; exact hko hkq
            · exact behind m (reach_ea Tr hok hq' ho h (.inl ⟨hkq, .inr hkk⟩)) (hkl m q h2 hq' hkq)
          obtain ⟨l1, l2⟩ := hlen k (Nat.le_refl _) (by omega) hnoe
          have hpi : 0 < (Tr.hp i).length := by rw [← l1]; exact hh.pos
          obtain ⟨blks, hv2, hA⟩ := oper_a hS hq hE hKI (by rw [hkT]; exact hkk) hval
          have htop1 : (Tr.hp (i + 1)).top.length = (Tr.hp i).top.length + blks.length := by rw [hv2, Heap.top_setTop hpi]; simp
          have hr1 := range_not_e Tr hS hq hE hKI (i := i + 1) (k - (i + 1)) (by omega) (fun m q h1 h2 => hnoe m q (by omega) (by omega))
          rw [show i + 1 + (k - (i + 1)) = k from by omega] at hr1
          have hpi1 : 0 < (Tr.hp (i + 1)).length := by rw [← hr1.1]; exact hh.pos
          have hwT : wantedV ops (Tr.T i) o = some true := by rw [← wanted_congr hTl hagree]; exact hb
          have hBo : ∀ j, (Tr.hp i).top.length ≤ j → j < (Tr.hp (i + 1)).top.length → B 0 j = .out := hout i o hlt ho hkk hwT hnl
          refine hA F (Tr.hp k) ok B w a _ Q hF (l2 hpi).1 hh (fun j hj => hBo _ (by omega) (by omega)) (fun j b hb => ?_) ht fun ok' B' w' c hx' hh' hv' hkeep => ?_
          · refine (hr1.2 hpi1).1 _ _ _ ?_
            rw [hv2, Heap.get_setTop hpi, if_pos rfl, List.getElem?_append_right (by omega)]
            rw [show (Tr.hp i).top.length + j - (Tr.hp i).top.length = j from by omega]; exact hb
          · refine next_o ok' B' w' c hne hx' hh' hv' fun m q h1 h2 h3 h4 h5 h6 j hj1 hj2 => ?_
            rw [hkeep 0 j fun hc => ?_]
            · exact hout m q h1 h2 h3 h4 h5 j hj1 hj2
            · obtain ⟨_, hc1, hc2⟩ := hc
              rcases Nat.lt_or_gt_of_ne h6 with hmi | hmi
              · have hno : ∀ q' o', m ≤ q' → q' < k → ops[q']? = some o' → kindT E (Tr.T q') o'.op ≠ .e := by
                  intro q' o' g1 g2 g3 g4
                  rcases Nat.eq_or_lt_of_le g1 with rfl | hlt'
                  · rw [h2] at g3; simp only [Option.some.injEq] at g3; subst g3; rw [h3] at g4; cases g4
                  · exact h5 (reach_listed hI.closed 8 q' m (fun o'' ho'' e he hbd => hI.closed q' o'' (hkl q' o' g2 g3 g4) ho'' e he hbd) (reach_ea Tr hok g3 h2 hlt' (.inl ⟨g4, .inr h3⟩)))
                have hrm1 := range_not_e Tr hS hq hE hKI (i := m + 1) (i - (m + 1)) (by omega) (fun m' q' g1 g2 => hno m' q' (by omega) (by omega))
                rw [show m + 1 + (i - (m + 1)) = i from by omega] at hrm1
                have := (hrm1.2 (by rw [← hrm1.1]; exact hpi)).2
                omega
              · have hrm1 := range_not_e Tr hS hq hE hKI (i := i + 1) (m - (i + 1)) (by omega) (fun m' q' g1 g2 => hnoe m' q' (by omega) (by omega))
                rw [show i + 1 + (m - (i + 1)) = m from by omega] at hrm1
                have := (hrm1.2 hpi1).2
                omega

/-- A region that draws its order. -/
theorem draw_sound (id : Nat) (he : opsV E rec ops ops.toList s = some s') {F : Fence} (hF : FW F) {base : Base} {ok : Nat → Prop} {B : Bd} {w : World} {a : Act} {Q : Exit → Act → World → Prop}
    (hs : SR p base s ok B w a) (hQ : ∀ ok' B' w' a', Ext ok B w ok' B' w' → SR p base s' ok' B' w' a' → s'.heap.length = s.heap.length → Q .normal a' w') : (Code.region id ops true).wpIn F 0 E.P Q a w := by
  refine wpIn_region_draw fun t => ?_
  have key : ∀ md t, wpOpsIn F 0 E.P ops Q (Region.linearise md ops t) a { w with drawn := w.drawn + 1 } := by
    intro md t
    unfold Region.linearise
    refine wpAnyIn_sound ops.size t _ a _ ?_
    change wpAnyIn F 0 E.P md ops Q ops.size (Array.replicate ops.size false) a w.drew
    let Tr := Trace.of he
    have hx := Ext.drew ok B w
    have hh0 : HR ok w.drew B p (Tr.hp 0) := by rw [Tr.h0]; exact hs.heap.drew
    obtain ⟨k, _, g2, g3, g4, g5⟩ := advance Tr hS hq hE hKI ops.size 0 (by omega) hh0
    have hnl : ∀ i, ¬ Lst (Array.replicate ops.size false) i := by
      intro i h
      unfold Lst at h
      rw [Array.getElem?_replicate] at h
      split at h <;> simp at h
    have hr := range_not_e Tr hS hq hE hKI (i := 0) k (by omega) (fun m o h h' => g3 m o h (by omega))
    rw [Nat.zero_add] at hr
    refine inv_run Tr hS hq hE hK hKI hok md hF (base := base) (ok0 := ok) (B0 := B) (w0 := w) (Q := Q) Tr.fn hQ ops.size _ a w.drew ⟨by simp, fun i o h => absurd h (hnl i), k, ok, B, g2, fun j o hj ho hk => absurd hk (g3 j o (by omega) hj ho), fun o ho => ⟨g4 o ho, hnl k⟩, hx, g5, ?_, Marks.ext hs.marks hx, by rw [hr.1, Tr.h0], ?_⟩ ?_
    · have : TA Tr (Array.replicate ops.size false) = s.tmps := by
        rw [← Tr.T0]
        apply List.ext_getElem
        · rw [TA_length, T_length Tr 0 (by omega)]
        · intro t h1 h2
          have htl : t < s.tmps.length := by rw [TA_length] at h1; exact h1
          have e1 : (TA Tr (Array.replicate ops.size false))[t] = (TA Tr (Array.replicate ops.size false)).getD t .poison := by rw [List.getD_eq_getElem?_getD, List.getElem?_eq_getElem h1]; rfl
          have e2 : (Tr.T 0)[t] = (Tr.T 0).getD t .poison := by rw [List.getD_eq_getElem?_getD, List.getElem?_eq_getElem h2]; rfl
          rw [e1, e2, TA_getD Tr _ htl]
          exact W_agree Tr htl (by omega) fun j o ho _ => ⟨fun h => absurd h (hnl j), fun h => by omega⟩
      rw [this]
      exact hx.vrelL hs.heap hs.tmps
    · intro m o hm1 ho hka hw _ j hj1 hj2
      have hrm := range_not_e Tr hS hq hE hKI (i := 0) m (by omega) (fun m' o' h h' => g3 m' o' h (by omega))
      rw [Nat.zero_add] at hrm
      exact hh0.top_lt (Nat.le_trans (hrm.2 hh0.pos).2 hj1)
    · have : ∀ m, cnt (Array.replicate ops.size false) m = m := by
        intro m
        induction m with
        | zero => rfl
        | succ m ih => simp only [cnt]; rw [if_neg (hnl m), ih]
      rw [this]; exact Nat.le_refl _
  unfold Region.schedule
  split
  · exact key .any t
  · exact key _ _
end
end
end Go.Sim
end
section
namespace Go.Sim
open Go
set_option linter.unusedVariables false

theorem ev_sound {E : Env} (hq : EqOk E) (hE : FnOk E (fun _ => true)) (hK : KnownOk E (fun _ => true)) (hKI : KnownIn E) : ∀ n, Sound E.P (fun _ => true) (ev E n) n
  | 0 => ⟨fun c s e s' he => by simp [ev] at he, fun c s e s' he => by simp [ev] at he⟩
  | n + 1 => ev_step (ev_sound hq hE hK hKI n) hq hE hK hKI fun id ops s s' hp he F base ok B w a Q hF hs hQ =>
      draw_sound (ev_sound hq hE hK hKI n) hq hE hK hKI hp id he hF hs hQ

/-- A function that is called by contents, from outside. -/
theorem calls_of_ev {E : Env} (hq : EqOk E) (hE : FnOk E (fun _ => true)) (hK : KnownOk E (fun _ => true)) (hKI : KnownIn E) {n : Nat} {f : FuncId} {args : List V} {r : V} {h' : Heap}
    (he : bodyV E (ev E n) f args [[]] = some (r, h')) {ok : Nat → Prop} {w : World} {args' : Array Value} (hok : ∀ b, ok b → b < w.heap.size) (ha : VRelL ok w Bd.none_ args args'.toList) {R : Ending → World → Prop}
    (hR : ∀ ok' B' w' v, After (fun _ => true) ok Bd.none_ w 1 h' r ok' B' w' v → R (.returned v) w') : Calls E.P f args' w R := by
  have h := body_sound (ev_sound hq hE hK hKI n) hE he ok Bd.none_ w args'.toList R (HR.empty hok) ha hR
  rw [Array.toArray_toList] at h
  exact callsIn_wide.1 h
end Go.Sim
end
