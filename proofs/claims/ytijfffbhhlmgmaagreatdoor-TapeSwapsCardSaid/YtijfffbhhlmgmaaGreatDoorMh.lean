/-
  The machine for closed laws that the kernel runs well does what the machine of values does: drawn regions, code.
  The machine for closed laws that the kernel runs well: functions that defer, settings, closed laws.
  Functions that read a global table, at arguments that were reckoned before.
  Functions of one list of bare cells and of bare values, run in a heap of their own.
  Settings of the machine for closed laws that know one function more.
  A function of one list of bare cells and of bare values, known by a table: each line of it is reckoned by itself.
  A law's walk where a package variable is laid: from the machine to the calls.
-/
import Derived.Test.YtijfffbhhlmgmaaGreatDoorMg
import Derived.Test.YtijfffbhhlmgmaaGreatDoorMe
section
namespace Go.Sim.Kr
open Go Go.Sim
set_option linter.unusedVariables false
set_option linter.unusedSimpArgs false

section
variable {K : KC} {rec : KRec} {rec' : Rec} {C : Cl} {hp hp' : U KB} {cnt cnt' : Nat} {h : Heap} {v : V}
theorem loadAt_ok {hs : List (U KB × Nat)} {hs' : List Heap} (hl : HL hs hs') {m : Nat} {t : TypeId} {a v : V} (hr : loadAt K hs m t a = some v) : loadV K.E.P (hs'.getD m []) t a = some v ∧ a ≠ .poison := by
  unfold loadAt at hr
  split at hr
  · rename_i x hx
    split at hr
    · rename_i v1 _ _ hk
      simp only [Option.some.injEq] at hr; subst hr
      obtain ⟨g1, _, _, g2⟩ := loadK_ok (hl.get hx) hk
      exact ⟨g1, g2⟩
    · cases hr
  · cases hr
theorem ifb_or {b c : Bool} (h : ifb b true c = true) : b = true ∨ c = true := by cases b with | true => exact .inl rfl | false => exact .inr h
theorem stillK_ok {hs : List (U KB × Nat)} {hs' : List Heap} (hl : HL hs hs') {ops : Array Oper} (hlen : hs.length = ops.size + 1) {e : KE} {T : List V} (hf : FR e T) {i j : Nat} (hr : stillK K ops hs e i j = true) {o : Oper} (ho : ops[i]? = some o) :
    stillB K.E hs' T ops i j o = true := by
  unfold stillK at hr
  rw [ho] at hr
  simp only at hr
  unfold stillB
  split at hr
  case h_2 => cases hr
  rename_i t a hop
  simp only [Bool.and_eq_true] at hr
  obtain ⟨h1, h2⟩ := hr
  rw [hop]
  simp only [h1, Bool.true_and]
  split at h2
  case h_2 => cases h2
  rename_i v hv
  obtain ⟨g1, g2⟩ := loadAt_ok hl hv
  rw [hf.np g2] at g1 h2
  rw [g1]
  simp only [List.all_eq_true, List.mem_range]
  intro m hm
  rw [← hl.length, hlen] at hm
  simp only [Bool.or_eq_true, Bool.not_eq_true']
  by_cases hc : ((Nat.ble i m && Nat.ble m (j + 1)) || (Nat.ble j m && Nat.ble m i)) = true
  · right
    have hmem : m ∈ rngT (ops.size + 1) i j := by
      unfold rngT
      rw [List.mem_filter]
      exact ⟨List.mem_range.2 hm, hc⟩
    have h3 := List.all_eq_true.1 h2 m hmem
    split at h3
    · rename_i v' hv'
      obtain ⟨f1, _⟩ := loadAt_ok hl hv'
      rw [f1]; exact h3
    · cases h3
  · left; simpa only [Bool.not_eq_true] using hc
theorem noRefK_has {J : Nat} {t : U KB} {l : List KB} (h : U.Is t l) (hr : noRefK J t l.length = true) (i : Nat) (k : KB) (hi : l[i]? = some k) : nrB J k = true := U.all_get h hr hi
theorem noRefL_all {J : Nat} : ∀ (l : List V), (∀ (t : Nat) v, l[t]? = some v → V.noRef J v = true) → V.noRefL J l = true
  | [], _ => rfl
  | v :: r, h => by
    simp only [V.noRefL, Bool.and_eq_true]
    exact ⟨h 0 v rfl, noRefL_all r fun t w hw => h (t + 1) w (by simpa using hw)⟩
mutual
theorem flat_noRef (J : Nat) : ∀ (v : V), V.flat v = true → V.noRef J v = true
  | .bool _, _ | .int _ _, _ | .float _ _, _ | .str _, _ | .nilptr, _ | .pcon _ _, _ | .nilslice, _ | .scon _ _ _ _, _ | .nilfunc, _ | .niliface, _ | .nilmap, _ => rfl
  | .pref _ _ _ _, h | .sref _ _ _ _ _ _, h | .mref _ _, h | .yield _ _, h | .poison, h => by simp [V.flat] at h
  | .func _ a b, h => by
    simp only [V.flat, Bool.and_eq_true] at h
    simp only [V.noRef, flatL_noRef J a h.1, flatL_noRef J b h.2, Bool.and_self]
  | .iface _ v, h => by simp only [V.flat] at h; simp only [V.noRef, flat_noRef J v h]
  | .agg cs, h => by simp only [V.flat] at h; simp only [V.noRef, flatL_noRef J cs h]
  | .tuple cs, h => by simp only [V.flat] at h; simp only [V.noRef, flatL_noRef J cs h]
theorem flatL_noRef (J : Nat) : ∀ (l : List V), V.flatL l = true → V.noRefL J l = true
  | [], _ => rfl
  | v :: r, h => by
    simp only [V.flatL, Bool.and_eq_true] at h
    simp only [V.noRefL, flat_noRef J v h.1, flatL_noRef J r h.2, Bool.and_self]
end
theorem envNoRef {J : Nat} : ∀ (e : KE), (KE.rec (motive := fun _ => Bool) true (fun _ v _ ih => ih && V.noRef J v) e : Bool) = true → ∀ t, V.noRef J (KE.look t e) = true
  | .nil, _, t => rfl
  | .cons i v r, h, t => by
    change ((KE.rec (motive := fun _ => Bool) true (fun _ v _ ih => ih && V.noRef J v) r : Bool) && V.noRef J v) = true at h
    simp only [Bool.and_eq_true] at h
    rw [KE.look_cons]
    split
    · exact h.2
    · exact envNoRef r h.1 t
theorem nrB_ok {J : Nat} {k : KB} {b : Blk} (hn : nrB J k = true) (hb : KBR k b) : Blk.noRef J b = true := by
  cases k with
  | row c len ep esz fl pl =>
    obtain ⟨cells, rfl, g1, rfl, gf⟩ := hb
    simp only [nrB, Bool.or_eq_true] at hn
    simp only [Blk.noRef]
    rcases hn with hn | hn
    · exact flatL_noRef J _ (gf hn)
    · have := (getsT_eq g1 cells.length 0 (by omega)).2
      rw [List.drop_zero, List.take_length] at this
      rw [this]; exact hn
  | oth b' => obtain ⟨rfl, _⟩ := hb; exact hn
  | lp fn n e x ps a c rd pd =>
    obtain ⟨tmps, rfl, g1, g2, g3⟩ := hb
    simp only [nrB, Bool.and_eq_true] at hn
    simp only [Blk.noRef]
    refine noRefL_all _ fun t v hv => ?_
    rcases g3 hn.1 t v hv with h | h
    · rw [h]; rfl
    · rw [h]; exact envNoRef e hn.2 t
theorem newTK_ok {hs : List (U KB × Nat)} {hs' : List Heap} (hl : HL hs hs') {vs vs' : List V} (ha : AR vs vs') {ops : Array Oper} {i m : Nat} (hr : newTK ops hs vs i m = true) {q : Oper} (hq : isAl q.op = true) : newB hs' vs' i m q = true := by
  unfold newTK at hr
  split at hr
  case h_2 => cases hr
  rename_i a b c d v ha1 hb1 hc1 hd1 hv1
  simp only [Bool.and_eq_true] at hr
  obtain ⟨⟨⟨⟨r1, r2⟩, r3⟩, r4⟩, r5⟩ := hr
  have ka := hl.get ha1
  have kb := hl.get hb1
  have kc := hl.get hc1
  have kd := hl.get hd1
  obtain ⟨v', e1, e2⟩ := ha.get hv1
  have hvv : v = v' := by
    rcases e2 with e2 | e2
    · exact absurd e2 (np_ne r4)
    · exact e2
  subst hvv
  have hJ : (Heap.top (hs'.getD m [])).length = a.2 := ka.top
  have r1 := Nat.eq_of_beq_eq_true r1
  unfold newB
  obtain ⟨elem, hop⟩ : ∃ elem, q.op = .alloc elem := by
    revert hq
    cases q.op <;> intro hq <;> first | exact ⟨_, rfl⟩ | cases hq
  simp only [hop, Bool.true_and, hJ, kb.top, r1, Bool.and_eq_true]
  refine ⟨⟨by rw [ka.len]; rfl, by simp⟩, ⟨?_, ?_⟩, ?_⟩
  · obtain ⟨_, c1, cells1, z1, f1, p1, g1, g2, g3, g4, _⟩ := rowK_ok kc r2 (by simp)
    obtain ⟨_, c2, cells2, z2, f2, p2, j1, j2, j3, j4, _⟩ := rowK_ok kd g4 (by simp)
    simp only [Bool.and_eq_true] at j4
    obtain ⟨⟨⟨⟨k1, k2⟩, k3⟩, k4⟩, k5⟩ := j4
    rw [g1, j1]
    have e1 := (getsT_eq g2 cells1.length 0 (by omega)).2
    have e2 := (getsT_eq j2 cells2.length 0 (by omega)).2
    rw [List.drop_zero, List.take_length] at e1 e2
    simp only [sameBlk, Bool.and_eq_true]
    refine ⟨⟨⟨⟨by rw [e1, e2]; exact k5, by simp⟩, ?_⟩, ?_⟩, ?_⟩
    · have := Nat.eq_of_beq_eq_true k2; subst this; simp
    · revert k3; cases f1 <;> cases f2 <;> simp
    · revert k4; cases p1 <;> cases p2 <;> simp
  · unfold Heap.noRef
    obtain ⟨top, kl, htop, h1, h2, h3, h4⟩ := kd
    rw [htop]
    simp only [Heap.top, List.getElem?_cons_zero, Option.getD_some, List.all_eq_true]
    intro b' hb'
    obtain ⟨n, hn, hbn⟩ := List.mem_iff_getElem.1 hb'
    have hk : kl[n]? = some (kl[n]'(by omega)) := List.getElem?_eq_getElem _
    obtain ⟨b2, q1, q2⟩ := h4 n _ hk
    have : b2 = b' := by rw [List.getElem?_eq_getElem hn] at q1; simpa [hbn] using q1.symm
    subst this
    exact nrB_ok (noRefK_has h3 (by rw [h2, ← h1]; exact r3) n _ hk) q2
  · rw [List.getD_eq_getElem?_getD, e1]
    exact r5
theorem kindE_ok {e : KE} {T : List V} (hf : FR e T) {o : Op} (h : kindE K e o = true) : kindT K.E T o = .e := by
  unfold kindE at h
  split at h
  case h_2 => cases h
  rename_i f args ts
  have hnp : evalK e f ≠ .poison := by
    intro hp
    rw [hp] at h
    cases h
  unfold kindT
  simp only
  rw [← hf.np hnp]
  revert h
  generalize evalK e f = x
  split
  · rename_i g _ _
    dsimp only
    generalize K.E.known g = kn
    generalize K.E.mode g = md
    cases kn <;> cases md <;> simp
  · simp
  · rename_i n1 n2
    intro _
    split
    · exact absurd rfl (n1 _ _ _)
    · rfl
theorem drawK_ok (hK : KOk K C) (hS : RS K rec rec') {ops : Array Oper} {fn : Nat} {e : KE} {s : St} (hs : SRK K fn e hp cnt s) {x : Exit} {e' : KE} (hr : drawK' K rec ops fn e hp cnt = .ok x e' hp' cnt') :
    x = .normal ∧ ∃ y s', opsH K.E rec' ops ops.toList s = some (y, s') ∧ regOkH K.E ops s'.tmps y.1 y.2 = true ∧ SRK K fn e' hp' cnt' s' := by
  unfold drawK' at hr
  cases hp0 : planT K.E ops with
  | none => rw [hp0] at hr; cases hr
  | some pl =>
    rw [hp0] at hr
    simp only at hr
    cases pl with
    | nil =>
      simp only at hr
      cases ho : opsK K rec ops fn ops.toList e hp cnt with
      | no => rw [ho] at hr; cases hr
      | ok x1 e1 hp1 cnt1 =>
        rw [ho] at hr
        injection hr with a0 a1 a2 a3
        subst a0 a1 a2 a3
        obtain ⟨s', g1, g2⟩ := opsK_ok hK hS ops.toList hs.fr hs.n hs.heap ho
        obtain ⟨y, hy⟩ := opsV_opsH ops.toList g1
        obtain ⟨m1, m2⟩ := endK_ok (mask := K.mask fn) g2.fr hs.msk g2.same
        exact ⟨rfl, y, s', hy, planT_ok hp0 (by simp), ⟨by rw [g2.fn]; exact hs.fne, m1, m2, by rw [g2.len]; exact hs.n, g2.heap⟩⟩
    | cons p0 pr =>
      simp only at hr
      cases ho : opsKH K rec ops fn ops.toList e hp cnt with
      | no => rw [ho] at hr; cases hr
      | ok hs1 vs1 e1 hp1 cnt1 =>
        rw [ho] at hr
        simp only at hr
        rw [ifb_eq] at hr
        split at hr
        case isFalse => cases hr
        rename_i hall
        injection hr with a0 a1 a2 a3
        subst a0 a1 a2 a3
        obtain ⟨s', hs', vs', g1, g2, g3, g4, g5, g6⟩ := opsKH_ok hK hS ops.toList hs.fr hs.n hs.heap ho
        obtain ⟨m1, m2⟩ := endK_ok (mask := K.mask fn) g6.fr hs.msk g6.same
        refine ⟨rfl, (hs', vs'), s', g1, planT_ok hp0 fun z hz => ?_, ⟨by rw [g6.fn]; exact hs.fne, m1, m2, by rw [g6.len]; exact hs.n, g6.heap⟩⟩
        have hz := List.all_eq_true.1 hall z hz
        obtain ⟨i, j, t⟩ := z
        have hlen : hs1.length = ops.size + 1 := by rw [g4, Array.length_toList]
        match t, hz with
        | 0, hz =>
          rcases ifb_or (show ifb (stillK K ops hs1 e1 i j) true (reach ops 8 i j) = true from hz) with hz | hz
          · exact fun o ho => .inl (stillK_ok g2 hlen g6.fr hz ho)
          · exact fun o ho => .inr hz
        | 1, hz =>
          rcases ifb_or (show ifb (stillK K ops hs1 e1 j i) true (reach ops 8 i j) = true from hz) with hz | hz
          · exact fun q hq => .inl (stillK_ok g2 hlen g6.fr hz hq)
          · exact fun q hq => .inr hz
        | 2, hz => exact fun q hq hal => newTK_ok (ops := ops) g2 g3 hz hal
        | n + 3, hz =>
          obtain ⟨z1, z2⟩ := Bool.and_eq_true_iff.1 (show (newTK ops hs1 vs1 i j && (match ops[i]? with | some o => kindE K e1 o.op | none => false)) = true from hz)
          exact ⟨fun q hq hal => newTK_ok (ops := ops) g2 g3 z1 hal, fun o ho => by rw [ho] at z2; exact kindE_ok g6.fr z2⟩
theorem regionK_ok (hK : KOk K C) (hS : RS K rec rec') {ops : Array Oper} {draw : Bool} {id fn : Nat} {e : KE} {s : St} (hs : SRK K fn e hp cnt s) {x : Exit} {e' : KE} (hr : regionK K rec ops draw fn e hp cnt = .ok x e' hp' cnt') :
    ∃ s', evStepC K.E C rec' (.region id ops draw) s = some (x, s') ∧ SRK K fn e' hp' cnt' s' := by
  unfold regionK at hr
  cases draw with
  | false =>
    simp only at hr
    cases ho : opsK K rec ops fn ops.toList e hp cnt with
    | no => rw [ho] at hr; cases hr
    | ok x1 e1 hp1 cnt1 =>
      rw [ho] at hr
      injection hr with a0 a1 a2 a3
      subst a0 a1 a2 a3
      obtain ⟨s', g1, g2⟩ := opsK_ok hK hS ops.toList hs.fr hs.n hs.heap ho
      obtain ⟨m1, m2⟩ := endK_ok (mask := K.mask fn) g2.fr hs.msk g2.same
      refine ⟨s', ?_, ⟨by rw [g2.fn]; exact hs.fne, m1, m2, by rw [g2.len]; exact hs.n, g2.heap⟩⟩
      simp only [evStepC, evStep, g1, Option.bind_some, Bool.false_and]
      rfl
  | true =>
    simp only at hr
    have fin : ∀ ops', (drawK' K rec ops' fn e hp cnt = .ok x e' hp' cnt') → ∃ s', ((opsH K.E rec' ops' ops'.toList s).bind fun y => if regOkD K.E ops' y.2.tmps || regOkH K.E ops' y.2.tmps y.1.1 y.1.2 then some y.2 else none) = some s' ∧ x = .normal ∧ SRK K fn e' hp' cnt' s' := by
      intro ops' hd
      obtain ⟨rfl, y, s', g1, g2, g3⟩ := drawK_ok hK hS hs hd
      refine ⟨s', ?_, rfl, g3⟩
      rw [g1]
      simp only [Option.bind_some, g2, Bool.or_true, if_true]
    have hord := hK.ord ops
    cases hL : K.ord ops with
    | nil =>
      rw [hL] at hr hord
      obtain ⟨s', g1, rfl, g3⟩ := fin ops hr
      refine ⟨s', ?_, g3⟩
      simp only [evStepC, drawC, hord, g1, Option.map_some]
    | cons a r =>
      rw [hL] at hr hord
      simp only [ifb_eq] at hr
      split at hr
      case isFalse => cases hr
      rename_i hpm
      obtain ⟨s', g1, rfl, g3⟩ := fin _ hr
      refine ⟨s', ?_, g3⟩
      simp only [evStepC, drawC, hord]
      rw [if_pos hpm, g1]
      rfl
theorem dropK_look (F : List Nat) (t : Nat) : ∀ (e : KE), KE.look t (dropK F e) = if F.any (Nat.beq t) = true then .poison else KE.look t e
  | .nil => by show V.poison = _; split <;> rfl
  | .cons i v r => by
    have ih := dropK_look F t r
    show KE.look t (@Bool.rec (fun _ => KE) (.cons i v (dropK F r)) (dropK F r) (F.any (Nat.beq i))) = _
    cases hb : F.any (Nat.beq i) with
    | true =>
      show KE.look t (dropK F r) = _
      rw [ih, KE.look_cons]
      by_cases hit : i = t
      · subst hit; rw [if_pos hb, if_pos hb]
      · rw [if_neg hit]
    | false =>
      show KE.look t (.cons i v (dropK F r)) = _
      rw [KE.look_cons, KE.look_cons, ih]
      by_cases hit : i = t
      · subst hit; rw [if_pos rfl, if_neg (by rw [hb]; simp), if_pos rfl]
      · rw [if_neg hit, if_neg hit]
theorem any_beq (F : List Nat) (t : Nat) : F.any (Nat.beq t) = true ↔ t ∈ F := by
  rw [List.any_eq_true]
  constructor
  · rintro ⟨x, hx, h⟩; rwa [Nat.eq_of_beq_eq_true h]
  · exact fun h => ⟨t, h, Nat.beq_refl t⟩
theorem forgK_ok : ∀ (hs : List Hint) {F : List Nat} (s : St), forgK hs = some F → ∃ tmps', hintsV hs s = some { s with tmps := tmps' } ∧ tmps'.length = s.tmps.length ∧ ∀ t v, tmps'[t]? = some v → (t ∈ F ∧ v = .poison) ∨ (t ∉ F ∧ s.tmps[t]? = some v)
  | [], F, s, h => by
    simp only [forgK, Option.some.injEq] at h; subst h
    exact ⟨s.tmps, rfl, rfl, fun t v hv => .inr ⟨by simp, hv⟩⟩
  | .forget i :: r, F, s, h => by
    simp only [forgK, Option.map_eq_some_iff] at h
    obtain ⟨F', h1, rfl⟩ := h
    obtain ⟨tmps', g1, g2, g3⟩ := forgK_ok r { s with tmps := s.tmps.set i .poison } h1
    refine ⟨tmps', by simp only [hintsV, hintV, Option.bind_some, g1], by rw [g2]; simp, fun t v hv => ?_⟩
    rcases g3 t v hv with ⟨h2, h3⟩ | ⟨h2, h3⟩
    · exact .inl ⟨by simp [h2], h3⟩
    · simp only at h3
      by_cases hit : i = t
      · subst hit
        rw [List.getElem?_set] at h3
        split at h3
        · split at h3
          · simp only [Option.some.injEq] at h3; exact .inl ⟨by simp, h3.symm⟩
          · cases h3
        · rename_i hne; exact absurd rfl hne
      · rw [List.getElem?_set_ne hit] at h3
        exact .inr ⟨by simp [h2, Ne.symm hit], h3⟩
  | .canon _ :: r, F, s, h | .promote _ _ :: r, F, s, h | .promoteBox _ _ _ :: r, F, s, h | .promoteAll _ _ _ :: r, F, s, h | .loose _ :: r, F, s, h => by simp [forgK] at h
theorem rangeFK_ok (hK : KOk K C) (hS : RS K rec rec') {f : Operand} {ps : Array Tmp} {a b : Code} {fn : Nat} {e : KE} {s : St} (hs : SRK K fn e hp cnt s) {x : Exit} {e' : KE} (hr : rangeFK K rec f ps.toList a b fn e hp cnt = .ok x e' hp' cnt') :
    ∃ s', evStep K.E rec' (.rangeFunc f ps a b) s = some (x, s') ∧ SRK K fn e' hp' cnt' s' := by
  unfold rangeFK at hr
  cases hF : forgK (K.E.hint fn (((firstRegion a).or (firstRegion b)).getD 0)) with
  | none => rw [hF] at hr; cases hr
  | some F =>
    rw [hF] at hr
    simp only at hr
    obtain ⟨T', w1, w2, w3⟩ := forgK_ok _ s hF
    have hn' : ntT K.E.P fn = T'.length := by rw [w2]; exact hs.n
    have hfr : FR (dropK F e) T' := by
      intro t
      rw [dropK_look]
      split
      · exact .inl rfl
      · rename_i hnt
        rcases hs.fr t with h1 | h1
        · exact .inl h1
        · right
          have hlt : t < T'.length := by
            rw [w2]
            rcases Nat.lt_or_ge t s.tmps.length with h2 | h2
            · exact h2
            · rw [List.getElem?_eq_none h2] at h1; cases h1
          rcases w3 t _ (List.getElem?_eq_getElem hlt) with ⟨h2, _⟩ | ⟨_, h2⟩
          · exact absurd ((any_beq F t).2 h2) hnt
          · rw [List.getElem?_eq_getElem hlt, ← h2, h1]
    have hmk : Msk (K.mask fn) (dropK F e) := fun t ht => by
      rw [dropK_look]
      split
      · rfl
      · exact hs.msk t ht
    have hex : exactK F (dropK F e) (ntT K.E.P fn) = true → ∀ t v, T'[t]? = some v → v = .poison ∨ v = KE.look t (dropK F e) := by
      intro hx t v hv
      rcases w3 t v hv with ⟨_, h2⟩ | ⟨h2, h3⟩
      · exact .inl h2
      · have hlt : t < T'.length := by
          rcases Nat.lt_or_ge t T'.length with h4 | h4
          · exact h4
          · rw [List.getElem?_eq_none h4] at hv; cases hv
        have h5 := List.all_eq_true.1 hx t (List.mem_range.2 (by omega))
        simp only [Bool.or_eq_true] at h5
        rcases h5 with h5 | h5
        · exact absurd ((any_beq F t).1 h5) h2
        · rcases hfr t with h6 | h6
          · exact absurd h6 (np_ne h5)
          · rw [hv] at h6; simp only [Option.some.injEq] at h6; exact .inr h6
    split at hr
    case h_2 => cases hr
    rename_i g first captured hev
    have hev' : evalT T' f = .func (.func g) first captured := by rw [← hfr.np (by rw [hev]; simp)]; exact hev
    cases hc : callK K rec g (first ++ [V.yield 0 cnt] ++ captured) (U.set (.lp fn (ntT K.E.P fn) (dropK F e) (exactK F (dropK F e) (ntT K.E.P fn)) ps.toList a b true none) hp cnt) (Nat.succ cnt) with
    | no => rw [hc] at hr; cases hr
    | ok v0 hp2 cnt2 =>
      rw [hc] at hr
      simp only at hr
      have hh1 := hs.heap.push (k := .lp fn (ntT K.E.P fn) (dropK F e) (exactK F (dropK F e) (ntT K.E.P fn)) ps.toList a b true none) (b := .loop fn T' ps.toList a b true none) ⟨T', rfl, hfr, hn', hex⟩
      obtain ⟨v1, h2, c1, _, c3⟩ := callK_ok hK hS g _ _ _ _ _ _ _ _ (AR.refl _) hh1 hc
      obtain ⟨_, hj, fn2, n2, e2, x2, ps2, a2, b2, rd, p, tmps2, u1, u2, u3, ux, hr⟩ := lpK_ok c3 hr (by simp)
      rw [ifb_eq] at hr
      split at hr
      case isFalse => cases hr
      rename_i hrp
      rw [ifb_eq] at hr
      split at hr
      case isFalse => cases hr
      rename_i hmark
      rw [U.seq_eq] at hr
      have hkp := markK_ok c3 hmark
      have hh3 : KHR (U.set (.oth .dead) hp2 cnt) cnt2 (h2.set 0 cnt .dead) := c3.set hj ⟨rfl, rfl⟩
      have htrim : ({ s with tmps := T', heap := h2 } : St).trim cnt = { s with tmps := T', heap := h2.set 0 cnt .dead } := by
        rw [trim_keep hkp]
        have hne : ¬ h2.top.length = cnt := by rw [c3.top]; omega
        simp only [if_neg hne]
        unfold Heap.deadAt
        rw [u1]
      have hsr : SRK K fn (dropK F e) (U.set (.oth .dead) hp2 cnt) cnt2 { s with tmps := T', heap := h2.set 0 cnt .dead } := ⟨hs.fne, hfr, hmk, hn', hh3⟩
      have htop : s.heap.top.length = cnt := hs.heap.top
      have hstep : evStep K.E rec' (.rangeFunc f ps a b) s = match p with
          | none => some (.normal, { s with tmps := T', heap := h2.set 0 cnt .dead })
          | some c => rec' c { s with tmps := T', heap := h2.set 0 cnt .dead } := by
        simp only [evStep]
        rw [hs.fne, w1]
        simp only [Option.bind_some, hev', htop]
        rw [show (s.fn) = fn from hs.fne] at *
        rw [c1]
        simp only [Option.bind_some, u1]
        rw [if_pos hrp, htrim]
        cases p <;> rfl
      cases p with
      | none =>
        injection hr with a0 a1 a2 a3
        subst a0 a1 a2 a3
        exact ⟨_, hstep, hsr⟩
      | some c =>
        obtain ⟨s', r1, r2⟩ := hS c fn _ _ _ _ x e' hp' cnt' hsr hr
        exact ⟨s', by rw [hstep]; exact r1, r2⟩
theorem stepK_ok (hK : KOk K C) (hS : RS K rec rec') : RS K (stepK K rec) (evStepC K.E C rec') := by
  intro c fn e hp cnt s x e' hp' cnt' hs hr
  cases c with
  | skip =>
    injection hr with a0 a1 a2 a3
    subst a0 a1 a2 a3
    exact ⟨s, rfl, hs⟩
  | region id ops draw => exact regionK_ok hK hS hs hr
  | seq a b =>
    change seqR rec b fn (rec a fn e hp cnt) = _ at hr
    cases ha : rec a fn e hp cnt with
    | no => rw [ha] at hr; cases hr
    | ok x1 e1 hp1 cnt1 =>
      rw [ha] at hr
      obtain ⟨s1, g1, g2⟩ := hS a fn e hp cnt s x1 e1 hp1 cnt1 hs ha
      have out : (KR.ok x1 e1 hp1 cnt1 = .ok x e' hp' cnt') → x1 ≠ .normal → ∃ s', evStepC K.E C rec' (.seq a b) s = some (x, s') ∧ SRK K fn e' hp' cnt' s' := by
        intro he hne
        injection he with a0 a1 a2 a3
        subst a0 a1 a2 a3
        refine ⟨s1, ?_, g2⟩
        simp only [evStepC, evStep, g1]
        first | rfl | (split <;> first | rfl | (rename_i heq; simp only [Option.some.injEq, Prod.mk.injEq] at heq; exact absurd heq.1 hne))
      cases x1 with
      | normal =>
        obtain ⟨s', r1, r2⟩ := hS b fn e1 hp1 cnt1 s1 x e' hp' cnt' g2 hr
        exact ⟨s', by simp only [evStepC, evStep, g1]; exact r1, r2⟩
      | exit i => exact out hr (by simp)
      | goto l => exact out hr (by simp)
      | ret => exact out hr (by simp)
      | panic c => exact out hr (by simp)
      | outgrown => exact out hr (by simp)
  | cond y a b =>
    change (match evalK e y with | .bool t => rec (ifb t a b) fn e hp cnt | _ => .no) = _ at hr
    split at hr
    case h_2 => cases hr
    rename_i t ht
    have hc : evalT s.tmps y = .bool t := by rw [← hs.fr.np (by rw [ht]; simp)]; exact ht
    rw [ifb_eq] at hr
    obtain ⟨s', r1, r2⟩ := hS _ fn e hp cnt s x e' hp' cnt' hs hr
    exact ⟨s', by simp only [evStepC, evStep, hc]; exact r1, r2⟩
  | block id c =>
    change blockR id (rec c fn e hp cnt) = _ at hr
    cases ha : rec c fn e hp cnt with
    | no => rw [ha] at hr; cases hr
    | ok x1 e1 hp1 cnt1 =>
      rw [ha] at hr
      obtain ⟨s1, g1, g2⟩ := hS c fn e hp cnt s x1 e1 hp1 cnt1 hs ha
      cases x1 with
      | exit i =>
        change ifb (Nat.beq i id) _ _ = _ at hr
        rw [ifb_eq] at hr
        split at hr
        · rename_i hi
          obtain rfl := Nat.eq_of_beq_eq_true hi
          injection hr with a0 a1 a2 a3
          subst a0 a1 a2 a3
          exact ⟨s1, by simp only [evStepC, evStep, g1, if_true], g2⟩
        · rename_i hi
          injection hr with a0 a1 a2 a3
          subst a0 a1 a2 a3
          exact ⟨s1, by simp only [evStepC, evStep, g1]; rw [if_neg (fun h => hi (by rw [h]; exact Nat.beq_refl _))], g2⟩
      | _ =>
        injection hr with a0 a1 a2 a3
        subst a0 a1 a2 a3
        exact ⟨s1, by simp only [evStepC, evStep, g1], g2⟩
  | loop body =>
    change ifb (K.E.hint fn ((firstRegion body).getD 0)).isEmpty (seqR rec (.loop body) fn (rec body fn e hp cnt)) .no = _ at hr
    rw [ifb_eq] at hr
    split at hr
    case isFalse => cases hr
    rename_i hemp
    have hemp : K.E.hint fn ((firstRegion body).getD 0) = [] := by
      revert hemp
      cases K.E.hint fn ((firstRegion body).getD 0) <;> simp
    cases ha : rec body fn e hp cnt with
    | no => rw [ha] at hr; cases hr
    | ok x1 e1 hp1 cnt1 =>
      rw [ha] at hr
      obtain ⟨s1, g1, g2⟩ := hS body fn e hp cnt s x1 e1 hp1 cnt1 hs ha
      have hstep : evStepC K.E C rec' (.loop body) s = match (some (x1, s1) : Option (Exit × St)) with
          | some (.normal, s') => rec' (.loop body) s'
          | r => r := by
        simp only [evStepC, hK.keep, if_true, hs.fne, hemp, hintsV, Option.bind_some, g1, forgets]
        cases x1 <;> rfl
      cases x1 with
      | normal =>
        obtain ⟨s', r1, r2⟩ := hS (.loop body) fn e1 hp1 cnt1 s1 x e' hp' cnt' g2 hr
        exact ⟨s', by rw [hstep]; exact r1, r2⟩
      | _ =>
        injection hr with a0 a1 a2 a3
        subst a0 a1 a2 a3
        exact ⟨s1, by rw [hstep], g2⟩
  | rangeFunc f ps a b =>
    obtain ⟨s', r1, r2⟩ := rangeFK_ok hK hS hs hr
    exact ⟨s', r1, r2⟩
  | exit id =>
    injection hr with a0 a1 a2 a3
    subst a0 a1 a2 a3
    exact ⟨s, rfl, hs⟩
  | scope c =>
    change scopeR rec c fn (rec c fn e hp cnt) = _ at hr
    cases ha : rec c fn e hp cnt with
    | no => rw [ha] at hr; cases hr
    | ok x1 e1 hp1 cnt1 =>
      rw [ha] at hr
      obtain ⟨s1, g1, g2⟩ := hS c fn e hp cnt s x1 e1 hp1 cnt1 hs ha
      cases x1 with
      | goto l =>
        change (match findLabel c l with | some rest => noGoto (rec rest fn e1 hp1 cnt1) | none => .no) = _ at hr
        split at hr
        case h_2 => cases hr
        rename_i rest hl
        cases hb : rec rest fn e1 hp1 cnt1 with
        | no => rw [hb] at hr; cases hr
        | ok x2 e2 hp2 cnt2 =>
          rw [hb] at hr
          obtain ⟨s2, r1, r2⟩ := hS rest fn e1 hp1 cnt1 s1 x2 e2 hp2 cnt2 g2 hb
          cases x2 with
          | goto _ => cases hr
          | _ =>
            injection hr with a0 a1 a2 a3
            subst a0 a1 a2 a3
            exact ⟨s2, by simp only [evStepC, evStep, g1, hl, r1], r2⟩
      | _ =>
        injection hr with a0 a1 a2 a3
        subst a0 a1 a2 a3
        exact ⟨s1, by simp only [evStepC, evStep, g1], g2⟩
  | label l =>
    injection hr with a0 a1 a2 a3
    subst a0 a1 a2 a3
    exact ⟨s, rfl, hs⟩
  | goto l =>
    injection hr with a0 a1 a2 a3
    subst a0 a1 a2 a3
    exact ⟨s, rfl, hs⟩
  | ret =>
    injection hr with a0 a1 a2 a3
    subst a0 a1 a2 a3
    exact ⟨s, rfl, hs⟩
  | refuse w => cases hr
theorem evK_ok (hK : KOk K C) : ∀ n, RS K (evK' K n) (evC K.E C n)
  | 0 => fun c fn e hp cnt s x e' hp' cnt' hs hr => by cases hr
  | n + 1 => stepK_ok hK (evK_ok hK n)
end
end Go.Sim.Kr
end
section
namespace Go.Sim.Kr
open Go Go.Sim Go.RowKit
set_option linter.unusedVariables false
set_option linter.unusedSimpArgs false

def DR : KD → List Dfr → Prop
  | [], [] => True
  | x :: r, y :: r' => x.1 = y.1 ∧ AR x.2 y.2 ∧ DR r r'
  | _, _ => False
section
variable {K : KC} {rec : KRec} {rec' : Rec} {C : Cl} {hp hp' : U KB} {cnt cnt' : Nat} {h : Heap} {v : V}
theorem deferK_ok {e : KE} {T : List V} (hf : FR e T) {c : Call} {d : Nat × List V} (hd : deferK e c = some d) : ∃ d', deferV T c = some d' ∧ d.1 = d'.1 ∧ AR d.2 d'.2 := by
  unfold deferK at hd
  unfold deferV
  split at hd
  · rename_i f hc
    split at hd
    · rename_i g first captured hev
      simp only [Option.some.injEq] at hd; subst hd
      have : evalT T f = .func (.func g) first captured := by rw [← hf.np (by rw [hev]; simp)]; exact hev
      simp only [hc, this]
      exact ⟨_, rfl, rfl, ((AR.refl first).append (evalL_AR hf c.args.toList)).append (AR.refl captured)⟩
    · cases hd
  · cases hd
theorem opsDK_cons (ops : Array Oper) (fn : Nat) (o : Oper) (r : List Oper) (e : KE) (hp : U KB) (cnt : Nat) (D : KD) : opsDK K rec ops fn (o :: r) e hp cnt D =
    ifb (dstK K fn o) (match wantK ops e o with
      | none => .no
      | some false => opsDK K rec ops fn r (putK e o.dst V.undef) hp cnt D
      | some true => match o.op with
        | .defer c => (match deferK e c with | some d => opsDK K rec ops fn r (putK e o.dst V.undef) hp cnt (d :: D) | none => .no)
        | op => KO.rec .no (fun v hp cnt => opsDK K rec ops fn r (putK e o.dst v) hp cnt D) (operK K rec e hp cnt op)) .no := rfl
theorem opsDK_ok (hK : KOk K C) (hS : RS K rec rec') {ops : Array Oper} {fn : Nat} : ∀ (l : List Oper) {e : KE} {hp : U KB} {cnt : Nat} {D : KD} {s : St} {D0 : List Dfr} {x : Exit} {e' : KE} {hp' : U KB} {cnt' : Nat} {D' : KD},
    FR e s.tmps → ntT K.E.P fn = s.tmps.length → KHR hp cnt s.heap → DR D D0 → opsDK K rec ops fn l e hp cnt D = .ok x e' hp' cnt' D' → ∃ s' D0', opsD K.E rec' ops l s D0 = some (s', D0') ∧ DR D' D0' ∧ After e e' hp' cnt' l s s'
  | [], e, hp, cnt, D, s, D0, x, e', hp', cnt', D', hf, hn, hh, hD, hr => by
    injection hr with a1 a2 a3 a4 a5
    subst a1 a2 a3 a4 a5
    exact ⟨s, D0, rfl, hD, hf, rfl, rfl, hh, fun _ _ => rfl⟩
  | o :: r, e, hp, cnt, D, s, D0, x, e', hp', cnt', D', hf, hn, hh, hD, hr => by
    rw [opsDK_cons, ifb_eq] at hr
    split at hr
    case isFalse => cases hr
    rename_i hd
    have step : ∀ v v' hp1 cnt1 h1 D1 D01, VR v v' → KHR hp1 cnt1 h1 → DR D1 D01 → opsDK K rec ops fn r (putK e o.dst v) hp1 cnt1 D1 = .ok x e' hp' cnt' D' →
        ∃ s' D0', opsD K.E rec' ops r { s with tmps := putT s.tmps o.dst v', heap := h1 } D01 = some (s', D0') ∧ DR D' D0' ∧ After e e' hp' cnt' (o :: r) s s' := by
      intro v v' hp1 cnt1 h1 D1 D01 hv hh1 hD1 hr1
      obtain ⟨s', D0', g1, g3, g2⟩ := opsDK_ok hK hS r (s := { s with tmps := putT s.tmps o.dst v', heap := h1 }) (hf.put o.dst hv (dst_lt hd hn)) (by simp only [putT_length]; exact hn) hh1 hD1 hr1
      refine ⟨s', D0', g1, g3, g2.fr, by rw [g2.len]; exact putT_length _ _ _, g2.fn, g2.heap, fun t ht => ?_⟩
      obtain ⟨h2, h3⟩ := dsts_cons ht
      rw [g2.same t h3, look_put h2]
    cases hw : wantK ops e o with
    | none => rw [hw] at hr; cases hr
    | some w =>
      have hw' := wantK_ok hf hw
      rw [hw] at hr
      cases w with
      | false =>
        obtain ⟨s', D0', g1, g2⟩ := step V.undef V.undef hp cnt s.heap D D0 (.inr rfl) hh hD hr
        exact ⟨s', D0', by simp only [opsD, hw', Option.bind_some]; exact g1, g2⟩
      | true =>
        simp only at hr
        have oper : ∀ op, o.op = op → (∀ c, op ≠ .defer c) → (KO.rec .no (fun v hp cnt => opsDK K rec ops fn r (putK e o.dst v) hp cnt D) (operK K rec e hp cnt op) : KQ) = .ok x e' hp' cnt' D' →
            ∃ s' D0', opsD K.E rec' ops (o :: r) s D0 = some (s', D0') ∧ DR D' D0' ∧ After e e' hp' cnt' (o :: r) s s' := by
          intro op hop hne hr1
          cases ho : operK K rec e hp cnt op with
          | no => rw [ho] at hr1; cases hr1
          | ok v hp1 cnt1 =>
            rw [ho] at hr1
            obtain ⟨v', h1, e1, e2, e3⟩ := operK_ok hK hS hf hh ho
            obtain ⟨s', D0', g1, g2⟩ := step v v' hp1 cnt1 h1 D D0 e2 e3 hD hr1
            refine ⟨s', D0', ?_, g2⟩
            simp only [opsD, hw', Option.bind_some, if_true]
            rw [hop]
            cases op <;> first
              | exact absurd rfl (hne _)
              | (simp only [e1, Option.bind_some]; exact g1)
        split at hr
        · rename_i c hop
          cases hdf : deferK e c with
          | none => rw [hdf] at hr; cases hr
          | some d =>
            rw [hdf] at hr
            obtain ⟨d', f1, f2, f3⟩ := deferK_ok hf hdf
            obtain ⟨s', D0', g1, g2⟩ := step V.undef V.undef hp cnt s.heap (d :: D) (d' :: D0) (.inr rfl) hh ⟨f2, f3, hD⟩ hr
            refine ⟨s', D0', ?_, g2⟩
            simp only [opsD, hw', Option.bind_some, if_true, hop, f1]
            exact g1
        · rename_i op hne
          exact oper _ rfl (fun c hc => hne c hc) hr
theorem evDK_ok (hK : KOk K C) (hS : RS K rec rec') {fn : Nat} : ∀ (c : Code) {e : KE} {hp : U KB} {cnt : Nat} {D : KD} {s : St} {D0 : List Dfr} {x : Exit} {e' : KE} {hp' : U KB} {cnt' : Nat} {D' : KD},
    SRK K fn e hp cnt s → DR D D0 → evDK K rec c fn e hp cnt D = .ok x e' hp' cnt' D' → ∃ s' D0', evD K.E rec' c s D0 = some (x, s', D0') ∧ DR D' D0' ∧ SRK K fn e' hp' cnt' s' := by
  have plain : ∀ (c : Code) {e : KE} {hp : U KB} {cnt : Nat} {D : KD} {s : St} {D0 : List Dfr} {x : Exit} {e' : KE} {hp' : U KB} {cnt' : Nat} {D' : KD}, SRK K fn e hp cnt s → DR D D0 →
      (match rec c fn e hp cnt with | .ok x e' hp' cnt' => KQ.ok x e' hp' cnt' D | .no => .no) = .ok x e' hp' cnt' D' → ∃ s' D0', (rec' c s).map (fun (e, s') => (e, s', D0)) = some (x, s', D0') ∧ DR D' D0' ∧ SRK K fn e' hp' cnt' s' := by
    intro c e hp cnt D s D0 x e' hp' cnt' D' hs hD hr
    cases ha : rec c fn e hp cnt with
    | no => rw [ha] at hr; cases hr
    | ok x1 e1 hp1 cnt1 =>
      rw [ha] at hr
      injection hr with a1 a2 a3 a4 a5
      subst a1 a2 a3 a4 a5
      obtain ⟨s', g1, g2⟩ := hS c fn e hp cnt s x1 e1 hp1 cnt1 hs ha
      exact ⟨s', D0, by rw [g1]; rfl, hD, g2⟩
  intro c
  induction c with
  | seq a b iha ihb =>
    intro e hp cnt D s D0 x e' hp' cnt' D' hs hD hr
    simp only [evDK] at hr
    cases ha : evDK K rec a fn e hp cnt D with
    | no => rw [ha] at hr; cases hr
    | ok x1 e1 hp1 cnt1 D1 =>
      rw [ha] at hr
      obtain ⟨s1, D01, g1, g2, g3⟩ := iha hs hD ha
      cases x1 with
      | normal =>
        obtain ⟨s', D0', r1, r2⟩ := ihb g3 g2 hr
        exact ⟨s', D0', by simp only [evD, g1]; exact r1, r2⟩
      | _ =>
        injection hr with a1 a2 a3 a4 a5
        subst a1 a2 a3 a4 a5
        exact ⟨s1, D01, by simp only [evD, g1], g2, g3⟩
  | region id ops draw =>
    intro e hp cnt D s D0 x e' hp' cnt' D' hs hD hr
    cases draw with
    | true => simp only [evDK] at hr; simp only [evD]; exact plain _ hs hD hr
    | false =>
      simp only [evDK] at hr
      cases ho : opsDK K rec ops fn ops.toList e hp cnt D with
      | no => rw [ho] at hr; cases hr
      | ok x1 e1 hp1 cnt1 D1 =>
        rw [ho] at hr
        injection hr with a1 a2 a3 a4 a5
        subst a1 a2 a3 a4 a5
        obtain ⟨s', D0', g1, g3, g2⟩ := opsDK_ok hK hS ops.toList hs.fr hs.n hs.heap hD ho
        obtain ⟨m1, m2⟩ := endK_ok (mask := K.mask fn) g2.fr hs.msk g2.same
        exact ⟨s', D0', by simp only [evD, g1, Option.map_some], g3, ⟨by rw [g2.fn]; exact hs.fne, m1, m2, by rw [g2.len]; exact hs.n, g2.heap⟩⟩
  | cond y a b iha ihb =>
    intro e hp cnt D s D0 x e' hp' cnt' D' hs hD hr
    simp only [evDK] at hr
    split at hr
    · rename_i ht
      have hc : evalT s.tmps y = .bool true := by rw [← hs.fr.np (by rw [ht]; simp)]; exact ht
      obtain ⟨s', D0', r1, r2⟩ := iha hs hD hr
      exact ⟨s', D0', by simp only [evD, hc]; exact r1, r2⟩
    · rename_i ht
      have hc : evalT s.tmps y = .bool false := by rw [← hs.fr.np (by rw [ht]; simp)]; exact ht
      obtain ⟨s', D0', r1, r2⟩ := ihb hs hD hr
      exact ⟨s', D0', by simp only [evD, hc]; exact r1, r2⟩
    · cases hr
  | _ =>
    intro e hp cnt D s D0 x e' hp' cnt' D' hs hD hr
    simp only [evDK] at hr
    simp only [evD]
    exact plain _ hs hD hr
theorem opsRK_cons (ops : Array Oper) (fn : Nat) (o : Oper) (r : List Oper) (e : KE) (hp : U KB) (cnt : Nat) : opsRK K ops fn (o :: r) e hp cnt =
    ifb (dstK K fn o) (match wantK ops e o with
      | none => .no
      | some false => opsRK K ops fn r (putK e o.dst V.undef) hp cnt
      | some true => if isRec o.op then opsRK K ops fn r (putK e o.dst .niliface) hp cnt else
        match kindOf K.E.P o.op with
        | .n => KO.rec .no (fun v _ _ => opsRK K ops fn r (putK e o.dst v) hp cnt) (hopK K.E e hp cnt o.op)
        | _ => .no) .no := rfl
theorem opsRK_ok {ops : Array Oper} {fn : Nat} : ∀ (l : List Oper) {e : KE} {hp : U KB} {cnt : Nat} {s : St} {x : Exit} {e' : KE} {hp' : U KB} {cnt' : Nat},
    FR e s.tmps → ntT K.E.P fn = s.tmps.length → KHR hp cnt s.heap → opsRK K ops fn l e hp cnt = .ok x e' hp' cnt' → ∃ s', opsR K.E ops l s = some s' ∧ After e e' hp' cnt' l s s'
  | [], e, hp, cnt, s, x, e', hp', cnt', hf, hn, hh, hr => by
    injection hr with a1 a2 a3 a4
    subst a1 a2 a3 a4
    exact ⟨s, rfl, hf, rfl, rfl, hh, fun _ _ => rfl⟩
  | o :: r, e, hp, cnt, s, x, e', hp', cnt', hf, hn, hh, hr => by
    rw [opsRK_cons, ifb_eq] at hr
    split at hr
    case isFalse => cases hr
    rename_i hd
    have step : ∀ v v', VR v v' → opsRK K ops fn r (putK e o.dst v) hp cnt = .ok x e' hp' cnt' →
        ∃ s', opsR K.E ops r { s with tmps := putT s.tmps o.dst v' } = some s' ∧ After e e' hp' cnt' (o :: r) s s' := by
      intro v v' hv hr1
      obtain ⟨s', g1, g2⟩ := opsRK_ok r (s := { s with tmps := putT s.tmps o.dst v' }) (hf.put o.dst hv (dst_lt hd hn)) (by simp only [putT_length]; exact hn) hh hr1
      refine ⟨s', g1, g2.fr, by rw [g2.len]; exact putT_length _ _ _, g2.fn, g2.heap, fun t ht => ?_⟩
      obtain ⟨h2, h3⟩ := dsts_cons ht
      rw [g2.same t h3, look_put h2]
    cases hw : wantK ops e o with
    | none => rw [hw] at hr; cases hr
    | some w =>
      have hw' := wantK_ok hf hw
      rw [hw] at hr
      cases w with
      | false =>
        obtain ⟨s', g1, g2⟩ := step V.undef V.undef (.inr rfl) hr
        exact ⟨s', by simp only [opsR, hw', Option.bind_some]; exact g1, g2⟩
      | true =>
        simp only at hr
        split at hr
        · rename_i hrec
          obtain ⟨s', g1, g2⟩ := step .niliface .niliface (.inr rfl) hr
          exact ⟨s', by simp only [opsR, hw', Option.bind_some, if_true, hrec]; exact g1, g2⟩
        · rename_i hrec
          split at hr
          · rename_i hk
            cases ho : hopK K.E e hp cnt o.op with
            | no => rw [ho] at hr; cases hr
            | ok v hp1 cnt1 =>
              rw [ho] at hr
              obtain ⟨v', h1, e1, e2, e3⟩ := hopK_ok hh hf ho
              obtain ⟨s', g1, g2⟩ := step v v' e2 hr
              refine ⟨s', ?_, g2⟩
              simp only [opsR, hw', Option.bind_some, if_true, hk]
              rw [if_neg hrec, e1]
              exact g1
          · cases hr
theorem evRK_ok (hS : RS K rec rec') {fn : Nat} : ∀ (c : Code) {e : KE} {hp : U KB} {cnt : Nat} {s : St} {x : Exit} {e' : KE} {hp' : U KB} {cnt' : Nat},
    SRK K fn e hp cnt s → evRK K rec c fn e hp cnt = .ok x e' hp' cnt' → ∃ s', evR K.E rec' c s = some (x, s') ∧ SRK K fn e' hp' cnt' s' := by
  intro c
  induction c with
  | seq a b iha ihb =>
    intro e hp cnt s x e' hp' cnt' hs hr
    simp only [evRK] at hr
    cases ha : evRK K rec a fn e hp cnt with
    | no => rw [ha] at hr; cases hr
    | ok x1 e1 hp1 cnt1 =>
      rw [ha] at hr
      obtain ⟨s1, g1, g3⟩ := iha hs ha
      cases x1 with
      | normal =>
        obtain ⟨s', r1, r2⟩ := ihb g3 hr
        exact ⟨s', by simp only [evR, g1]; exact r1, r2⟩
      | _ =>
        injection hr with a1 a2 a3 a4
        subst a1 a2 a3 a4
        exact ⟨s1, by simp only [evR, g1], g3⟩
  | region id ops draw =>
    intro e hp cnt s x e' hp' cnt' hs hr
    cases draw with
    | true => simp only [evRK] at hr; simp only [evR]; exact hS _ fn e hp cnt s x e' hp' cnt' hs hr
    | false =>
      simp only [evRK] at hr
      simp only [evR]
      split at hr
      · rename_i hany
        rw [if_pos hany]
        cases ho : opsRK K ops fn ops.toList e hp cnt with
        | no => rw [ho] at hr; cases hr
        | ok x1 e1 hp1 cnt1 =>
          rw [ho] at hr
          injection hr with a1 a2 a3 a4
          subst a1 a2 a3 a4
          obtain ⟨s', g1, g2⟩ := opsRK_ok ops.toList hs.fr hs.n hs.heap ho
          obtain ⟨m1, m2⟩ := endK_ok (mask := K.mask fn) g2.fr hs.msk g2.same
          exact ⟨s', by rw [g1]; rfl, ⟨by rw [g2.fn]; exact hs.fne, m1, m2, by rw [g2.len]; exact hs.n, g2.heap⟩⟩
      · rename_i hany
        rw [if_neg hany]
        exact hS _ fn e hp cnt s x e' hp' cnt' hs hr
  | cond y a b iha ihb =>
    intro e hp cnt s x e' hp' cnt' hs hr
    simp only [evRK] at hr
    split at hr
    · rename_i ht
      have hc : evalT s.tmps y = .bool true := by rw [← hs.fr.np (by rw [ht]; simp)]; exact ht
      obtain ⟨s', r1, r2⟩ := iha hs hr
      exact ⟨s', by simp only [evR, hc]; exact r1, r2⟩
    · rename_i ht
      have hc : evalT s.tmps y = .bool false := by rw [← hs.fr.np (by rw [ht]; simp)]; exact ht
      obtain ⟨s', r1, r2⟩ := ihb hs hr
      exact ⟨s', by simp only [evR, hc]; exact r1, r2⟩
    · cases hr
  | _ =>
    intro e hp cnt s x e' hp' cnt' hs hr
    simp only [evRK] at hr
    simp only [evR]
    exact hS _ fn e hp cnt s x e' hp' cnt' hs hr
theorem bodyRK_ok (hS : RS K rec rec') {f : Nat} {args args' : List V} (ha : AR args args') (hh : KHR hp cnt h) (hr : bodyRK K rec f args hp cnt = some (hp', cnt')) : ∃ v h', bodyR K.E rec' f args' h = some (v, h') ∧ KHR hp' cnt' h' := by
  unfold bodyRK at hr
  obtain ⟨hfn, hr⟩ := ifb_some hr
  obtain ⟨hlen, hr⟩ := ifb_some hr
  have hlen : args.length ≤ ntT K.E.P f := Nat.le_of_ble_eq_true hlen
  split at hr
  · cases hr
  · rename_i c rs hft
    obtain ⟨fn, h1, h2, h3, h4⟩ := fnT_ok hft
    obtain ⟨f1, f2, f3⟩ := frameK_ok (mask := K.mask f) ha (ntT K.E.P f) hlen
    split at hr
    case isFalse => cases hr
    rename_i hnr
    have key : ∀ x e hp1 cnt1, (x = .normal ∨ x = .ret) → evRK K rec c f (frameK (K.mask f) args 0) hp cnt = .ok x e hp1 cnt1 → (match resK K.E.P hp1 cnt1 e rs with | some _ => some (hp1, cnt1) | none => none) = some (hp', cnt') → ∃ v h', bodyR K.E rec' f args' h = some (v, h') ∧ KHR hp' cnt' h' := by
      intro x e hp1 cnt1 hx hrec hk
      obtain ⟨s', g1, g2⟩ := evRK_ok hS c (s := ⟨f, args' ++ List.replicate (ntT K.E.P f - args'.length) .poison, h⟩) ⟨rfl, f1, f2, f3, hh⟩ hrec
      cases hres : resK K.E.P hp1 cnt1 e rs with
      | none => rw [hres] at hk; cases hk
      | some l =>
        rw [hres] at hk
        simp only [Option.some.injEq, Prod.mk.injEq] at hk
        obtain ⟨rfl, rfl⟩ := hk
        have hR := resK_ok g2.heap g2.fr rs hres
        refine ⟨joinV l, s'.heap, ?_, g2.heap⟩
        unfold bodyR
        rw [if_pos hfn, h1]
        simp only [h2]
        rw [if_pos hnr, ← h4, g1]
        rcases hx with rfl | rfl <;> simp only [h3, hR, Option.map_some]
    split at hr
    · rename_i e hp1 cnt1 hrec; exact key _ _ _ _ (.inl rfl) hrec hr
    · rename_i e hp1 cnt1 hrec; exact key _ _ _ _ (.inr rfl) hrec hr
    · cases hr
theorem leaveK_cons (x : Nat × List V) (D : KD) (hp : U KB) (cnt : Nat) : leaveK K rec (x :: D) hp cnt = ifb (markK hp cnt) (match bodyRK K rec x.1 x.2 hp cnt with | some (hp, cnt) => leaveK K rec D hp cnt | none => none) none := rfl
theorem leaveK_ok (hS : RS K rec rec') : ∀ (D : KD) {D0 : List Dfr} {hp : U KB} {cnt : Nat} {s : St} {hp' : U KB} {cnt' : Nat}, DR D D0 → KHR hp cnt s.heap → leaveK K rec D hp cnt = some (hp', cnt') →
    ∃ h', leaveD K.E rec' D0 s = some { s with heap := h' } ∧ KHR hp' cnt' h'
  | [], [], hp, cnt, s, hp', cnt', _, hh, hr => by
    change some (hp, cnt) = some (hp', cnt') at hr
    simp only [Option.some.injEq, Prod.mk.injEq] at hr
    obtain ⟨rfl, rfl⟩ := hr
    exact ⟨s.heap, rfl, hh⟩
  | x :: D, y :: D0, hp, cnt, s, hp', cnt', hD, hh, hr => by
    rw [leaveK_cons] at hr
    obtain ⟨hm, hr⟩ := ifb_some hr
    have hk := markK_ok hh hm
    split at hr
    · rename_i hp1 cnt1 hb
      obtain ⟨v, h1, e1, e2⟩ := bodyRK_ok hS hD.2.1 hh hb
      obtain ⟨h', g1, g2⟩ := leaveK_ok hS D (s := { s with heap := h1 }) hD.2.2 e2 hr
      refine ⟨h', ?_, g2⟩
      simp only [leaveD, callR]
      rw [if_pos hk, ← hD.1, e1]
      exact g1
    · cases hr
  | [], _ :: _, _, _, _, _, _, hD, _, _ => hD.elim
  | _ :: _, [], _, _, _, _, _, hD, _, _ => hD.elim
theorem bodyDK_ok (hK : KOk K C) (hS : RS K rec rec') (f : Nat) : KnS (bodyDK K rec f) (bodyD K.E rec' f) := by
  intro args args' hp cnt h v hp' cnt' ha hh hr
  unfold bodyDK at hr
  rw [ifb_eq] at hr
  split at hr
  case isFalse => cases hr
  rename_i hfn
  rw [ifb_eq] at hr
  split at hr
  case isFalse => cases hr
  rename_i hlen
  have hlen : args.length ≤ ntT K.E.P f := Nat.le_of_ble_eq_true hlen
  split at hr
  · cases hr
  · rename_i c rs hft
    obtain ⟨fn, h1, h2, h3, h4⟩ := fnT_ok hft
    obtain ⟨f1, f2, f3⟩ := frameK_ok (mask := K.mask f) ha (ntT K.E.P f) hlen
    have key : ∀ x e hp1 cnt1 D, (x = .normal ∨ x = .ret) → evDK K rec c f (frameK (K.mask f) args 0) hp cnt [] = .ok x e hp1 cnt1 D →
        (match leaveK K rec D hp1 cnt1 with | some (hp, cnt) => (match resK K.E.P hp cnt e rs with | some l => .ok (joinV l) hp cnt | none => .no) | none => .no : KO) = .ok v hp' cnt' → ∃ v' h', bodyD K.E rec' f args' h = some (v', h') ∧ VR v v' ∧ KHR hp' cnt' h' := by
      intro x e hp1 cnt1 D hx hrec hk
      obtain ⟨s', D0', g1, gD, g2⟩ := evDK_ok hK hS c (D := []) (D0 := []) (s := ⟨f, args' ++ List.replicate (ntT K.E.P f - args'.length) .poison, h⟩) ⟨rfl, f1, f2, f3, hh⟩ trivial hrec
      split at hk
      case h_2 => cases hk
      rename_i hp2 cnt2 hlv
      obtain ⟨h2', l1, l2⟩ := leaveK_ok hS D gD g2.heap hlv
      split at hk
      case h_2 => cases hk
      rename_i l hres
      injection hk with a1 a2 a3
      subst a1 a2 a3
      have hR := resK_ok (s := { s' with heap := h2' }) l2 g2.fr rs hres
      refine ⟨joinV l, h2', ?_, .inr rfl, l2⟩
      unfold bodyD
      rw [if_pos hfn, h1]
      simp only [h2]
      rw [← h4, g1]
      rcases hx with rfl | rfl <;> simp only [l1, Option.bind_some, h3, hR, Option.map_some]
    split at hr
    · rename_i e hp1 cnt1 D hrec; exact key _ _ _ _ _ (.inl rfl) hrec hr
    · rename_i e hp1 cnt1 D hrec; exact key _ _ _ _ _ (.inr rfl) hrec hr
    · cases hr

noncomputable def withP (E : Env) (C : Cl) (n : Nat) (L : List Nat) : Env := { E with known := fun g => if L.any (Nat.beq g) then some (callV E (evC E C n) g) else E.known g }
theorem evF_ok (hK : KOk K C) (n : Nat) : RS K (evF K n) (evC K.E C n) := by rw [evF_eq]; exact evK_ok hK n
theorem pureG_ok (hK : KOk K C) (n f : Nat) (hk : K.kn f = none) (hm : K.E.mode f = .pure) : KnS (pureG K n f) (callV K.E (evC K.E C n) f) := by
  intro args args' hp cnt h v hp' cnt' ha hh hr
  unfold pureG at hr
  rw [ifb_eq] at hr
  split at hr
  case isFalse => cases hr
  rename_i hb
  rw [normF_eq] at hr
  obtain ⟨f1, rfl, rfl⟩ := ooK_ok hr
  obtain rfl := ha.np (bareL_np args hb)
  exact ⟨v, h, pureCall_ok (hK.knn f hk) hm (evF_ok hK n) hb f1 h, .inr rfl, hh⟩
theorem withPF_ok (hK : KOk K C) (n : Nat) (L : List Nat) (hL : ∀ g ∈ L, K.kn g = none ∧ K.E.mode g = .pure) : KOk (withPF K n L (withP K.E C n L)) C where
  keep := hK.keep
  ord := hK.ord
  kn := fun f G hG => by
    change (if L.any (Nat.beq f) then some (pureG K n f) else K.kn f) = some G at hG
    change ∃ F, (if L.any (Nat.beq f) then some (callV K.E (evC K.E C n) f) else K.E.known f) = some F ∧ KnS G F
    split at hG
    · rename_i hb
      simp only [Option.some.injEq] at hG; subst hG
      rw [if_pos hb]
      obtain ⟨h1, h2⟩ := hL f ((any_beq L f).1 hb)
      exact ⟨_, rfl, pureG_ok hK n f h1 h2⟩
    · rename_i hb
      rw [if_neg hb]
      exact hK.kn f G hG
  knn := fun f hf => by
    change (if L.any (Nat.beq f) then some (pureG K n f) else K.kn f) = none at hf
    change (if L.any (Nat.beq f) then some (callV K.E (evC K.E C n) f) else K.E.known f) = none
    split at hf
    · cases hf
    · rename_i hb
      rw [if_neg hb]
      exact hK.knn f hf
theorem withF_ok (hK : KOk K C) (n : Nat) (L : List Nat) : KOk (withF K n L (withC K.E C n L)) C where
  keep := hK.keep
  ord := hK.ord
  kn := fun f G hG => by
    change (if L.any (Nat.beq f) then some (bodyDK K (evF K n) f) else K.kn f) = some G at hG
    change ∃ F, (if L.any (Nat.beq f) then some (bodyD K.E (evC K.E C n) f) else K.E.known f) = some F ∧ KnS G F
    split at hG
    · rename_i hb
      simp only [Option.some.injEq] at hG; subst hG
      rw [if_pos hb]
      exact ⟨_, rfl, bodyDK_ok hK (evF_ok hK n) f⟩
    · rename_i hb
      rw [if_neg hb]
      exact hK.kn f G hG
  knn := fun f hf => by
    change (if L.any (Nat.beq f) then some (bodyDK K (evF K n) f) else K.kn f) = none at hf
    change (if L.any (Nat.beq f) then some (bodyD K.E (evC K.E C n) f) else K.E.known f) = none
    split at hf
    · cases hf
    · rename_i hb
      rw [if_neg hb]
      exact hK.knn f hf
structure MOk (E : Env) (p : Array Oper → Bool) : Prop where
  eq : EqOk E
  fn : FnOk E p
  kn : KnownOk E p
  ki : KnownIn E
variable {p : Array Oper → Bool}
theorem withC_mok {E : Env} {n : Nat} {L : List Nat} (hM : MOk E p) (hf : ∀ g ∈ L, E.frame g = false) (hL : ∀ x ∈ L, Enters E x) : MOk (withC E C n L) p :=
  ⟨withC_eqOk hM.eq, withC_fnOk hM.fn hf, withC_knownOk hM.eq hM.fn hM.kn hM.ki, withC_knownIn hM.ki hL⟩
theorem withP_mok {E : Env} {n : Nat} {L : List Nat} (hM : MOk E p) (hf : ∀ g ∈ L, E.frame g = false) (hL : ∀ x ∈ L, Enters E x) : MOk (withP E C n L) p where
  eq := hM.eq
  fn := ⟨by
    intro g F hg hF args h r h' hr
    change (if L.any (Nat.beq g) then some (callV E (evC E C n) g) else E.known g) = some F at hF
    split at hF
    · rename_i hb
      have := hf _ ((any_beq L g).1 hb)
      change E.frame g = true at hg
      rw [this] at hg
      cases hg
    · exact hM.fn.frame g F hg hF args h r h' hr, hM.fn.good⟩
  kn := by
    intro g F hF
    change (if L.any (Nat.beq g) then some (callV E (evC E C n) g) else E.known g) = some F at hF
    split at hF
    · obtain rfl := Option.some.inj hF
      intro args h r h' hc
      exact call_sound (evC_sound hM.eq hM.fn hM.kn hM.ki n) hM.fn hM.kn hc
    · exact hM.kn g F hF
  ki := by
    intro g F hF
    change (if L.any (Nat.beq g) then some (callV E (evC E C n) g) else E.known g) = some F at hF
    split at hF
    · rename_i hb
      exact hL _ ((any_beq L g).1 hb)
    · exact hM.ki g F hF

theorem HR.marked {ok : Nat → Nat → Prop} {w : World} {p : Array Oper → Bool} (hok : ∀ b n, ok b n → b < w.heap.size) (hG : Gl p ok w) (b : Blk) : HR ok w Bd.none_ p [[b]] where
  gl := hG
  pos := by simp
  blk := fun d j => trivial
  inj := fun d j d' j' b hb => by simp [Bd.none_, Ent.blk] at hb
  lt := fun d j b hb => by simp [Bd.none_, Ent.blk] at hb
  okn := fun b n hb => ⟨hok b n hb, fun d j hm => by simp [Bd.none_, Ent.blk] at hm⟩
theorem trueF_eval (hK : KOk K C) {n f : Nat} (ht : trueF K n f = true) : ∃ h', callV K.E (evC K.E C n) f [] [[.it none 77 [] 77]] = some (.bool true, h') := by
  unfold trueF at ht
  cases hc : callK K (evF K n) f [] (U.set (.oth (.it none 77 [] 77)) (U.new (.oth .dead)) 0) 1 with
  | no => rw [hc] at ht; cases ht
  | ok v hp1 cnt1 =>
    rw [hc] at ht
    have hh : KHR (U.set (.oth (.it none 77 [] 77)) (U.new (.oth .dead)) 0) 1 [[.it none 77 [] 77]] := by
      have := KHR.push (k := .oth (.it none 77 [] 77)) (b := .it none 77 [] 77) KHR.nil ⟨rfl, rfl⟩
      exact this
    obtain ⟨v', h', e1, e2, _⟩ := callK_ok hK (evF_ok hK n) f [] [] _ _ _ _ _ _ trivial hh hc
    refine ⟨h', ?_⟩
    have hv : v = .bool true := by
      revert ht
      cases v <;> intro ht <;> first | (cases ht; done) | (cases ht; rfl)
    subst hv
    rcases e2 with e2 | e2
    · cases e2
    · rw [← e2] at e1; exact e1
theorem trueF_calls (hK : KOk K C) (hM : MOk K.E p) {n f : Nat} (ht : trueF K n f = true) (w : World) (hG : Gl p (fun b _ => b < w.heap.size) w) : CallsIn Fence.wide 0 K.E.P f #[] w fun e w' => e = .returned (.bool true) ∧ Below w.heap.size w w' := by
  obtain ⟨h', hc⟩ := trueF_eval hK ht
  refine call_sound (evC_sound hM.eq hM.fn hM.kn hM.ki n) hM.fn hM.kn hc (fun b _ => b < w.heap.size) Bd.none_ w [] _ (HR.marked (fun b _ hb => hb) hG _) (by simp only [VRelL]) fun ok' B' w' v hA => ?_
  have hval := hA.val
  simp only [VRel] at hval
  subst hval
  exact ⟨rfl, hA.ext.os, hA.ext.tape, hA.ext.output, hA.ext.size, fun k hk => hA.ext.same k hk fun d j => by simp [Bd.none_, Ent.blk]⟩
def trueV (args : List V) (h : Heap) : Option (V × Heap) := match args with | [] => some (.bool true, h) | _ => none
theorem trueV_known (hK : KOk K C) (hM : MOk K.E p) {n f : Nat} (ht : trueF K n f = true) : ∀ args h r h', trueV args h = some (r, h') → CallS K.E.P p f args h r h' := by
  intro args h r h' hc
  unfold trueV at hc
  split at hc
  case h_2 => cases hc
  simp only [Option.some.injEq, Prod.mk.injEq] at hc
  obtain ⟨rfl, rfl⟩ := hc
  intro ok B w args' R hh ha hR
  simp only [VRelL] at ha
  subst ha
  refine (trueF_calls hK hM ht w (hh.glm (fun b n hb => (hh.okn b n hb).1) fun _ _ _ => rfl)).mono fun e w' hq => ?_
  obtain ⟨rfl, hb⟩ := hq
  obtain ⟨g1, g2⟩ := Ext.below hh hb
  exact hR ok B w' _ ⟨g1, g2, by simp only [VRel], rfl⟩
end
end Go.Sim.Kr
end
section
namespace Go.Sim.Kr
open Go Go.Sim
set_option linter.unusedVariables false
set_option linter.unusedSimpArgs false

def evalG (g : Nat) (tmps : List V) (x : Operand) : V :=
  match x with
  | .global g' => if Nat.beq g' g then .pcon tb64 0 else .poison
  | x => evalT tmps x
def opsG (E : Env) (g : Nat) (ops : Array Oper) : List Oper → St → Option St
  | [], s => some s
  | o :: r, s =>
    (wantedV ops s.tmps o).bind fun w =>
    if w then (opV E (evalG g s.tmps) s.heap o.op).bind fun x => opsG E g ops r { s with tmps := putT s.tmps o.dst x.1, heap := x.2 }
    else opsG E g ops r { s with tmps := putT s.tmps o.dst V.undef }
def evStepG (E : Env) (g : Nat) (rec : Rec) : Rec := fun c s =>
  match c with
  | .region _ ops false => (opsG E g ops ops.toList s).map fun s' => (.normal, s')
  | c => evStep E rec c s
def evG (E : Env) (g : Nat) : Nat → Rec
  | 0 => fun _ _ => none
  | n + 1 => evStepG E g (evG E g n)
section
variable {E : Env} {rec : Rec} {p : Array Oper → Bool} {ok : Nat → Nat → Prop} {w : World} {B : Bd} {m g : Nat} {h : Heap}
theorem evalG_rel (hg : p (markOps g) = false) (hh : HR ok w B p h) {tmps : List V} {a : Act} (ht : VRelL ok w B tmps a.tmps.toList) (x : Operand) : VRel ok w B (evalG g tmps x) (a.eval x) := by
  rcases x with t | v | g' | f
  · exact evalT_rel ht (.tmp t)
  · exact evalT_rel ht (.const v)
  · simp only [evalG]
    split
    · rename_i hb
      obtain rfl := Nat.eq_of_beq_eq_true hb
      have h2 := hh.gl g' hg
      simp only [VRel]
      exact ⟨g', 0, rfl, h2⟩
    · simp only [VRel]
  · exact evalT_rel ht (.func f)
theorem opsG_sound (hg : p (markOps g) = false) (hq : EqOk E) {F : Fence} (hF : FW F) {ops : Array Oper} :
    ∀ (l : List Oper) (i : Nat) (s s' : St) (base : Base) (ok : Nat → Nat → Prop) (B : Bd) (w : World) (a : Act) (Q : Exit → Act → World → Prop), ops.toList.drop i = l → opsG E g ops l s = some s' → SR p base s ok B w a →
      (∀ ok' B' w' a', Ext ok B w ok' B' w' → SR p base s' ok' B' w' a' → s'.heap.length = s.heap.length → Q .normal a' w') →
      wpOpsIn F 0 E.P ops Q (List.range' i l.length) a w
  | [], i, s, s', base, ok, B, w, a, Q, hl, he, hs, hQ => by
    simp only [opsG, Option.some.injEq] at he; subst he
    simp only [List.length_nil, List.range'_zero, wpOpsIn]
    exact hQ ok B w a (Ext.refl ok B w) hs rfl
  | o :: r, i, s, s', base, ok, B, w, a, Q, hl, he, hs, hQ => by
    have hi : ops[i]? = some o := by
      have : (ops.toList.drop i)[0]? = some o := by rw [hl]; rfl
      rw [List.getElem?_drop, Nat.add_zero, Array.getElem?_toList] at this
      exact this
    have hr : ops.toList.drop (i + 1) = r := by
      have : (ops.toList.drop i).drop 1 = r := by rw [hl]; rfl
      rwa [List.drop_drop] at this
    simp only [opsG, Option.bind_eq_some_iff] at he
    obtain ⟨b, hb, he⟩ := he
    have hw := wanted_rel (l := a.tmps) hb hs.tmps
    simp only [List.length_cons, List.range'_succ, wpOpsIn, hi, hw]
    cases b with
    | true =>
      simp only [if_true, Option.bind_eq_some_iff] at he ⊢
      obtain ⟨⟨v, h'⟩, hop, he⟩ := he
      obtain ⟨n, c, w', B', hrun, hgv, hx, hh', hv⟩ := op_rel hq hs.heap (evalG_rel hg hs.heap hs.tmps) hop
      have hd : ∀ c, o.op ≠ .defer c := fun c e => by rw [e] at hop; simp [opV] at hop
      have hlen : h'.length = s.heap.length := length_op hop
      refine ⟨fun f _ => hF.fn f, ?_⟩
      rw [Oper.semAt_eq _ _ _ hd, hrun]
      have key : ∀ v', VRel ok w' B' v v' → wpOpsIn F 0 E.P ops Q (List.range' (i + 1) r.length) (a.put o.dst v') w' := by
        intro v' hv'
        have hs' : SR p base { s with tmps := putT s.tmps o.dst v, heap := h' } ok B' w' (a.put o.dst v') :=
          ⟨hh', put_rel (hx.vrelL hs.heap hs.tmps) o.dst hv', by rw [put_defers]; exact Marks.ext hs.marks hx⟩
        refine opsG_sound hg hq hF r (i + 1) _ s' base ok B' w' _ Q hr he hs' fun ok2 B2 w2 a2 hx2 hs2 hl2 => ?_
        exact hQ ok2 B2 w2 a2 (hx.trans hx2) hs2 (hl2.trans hlen)
      rcases hgv with rfl | ⟨rfl, rfl⟩
      · exact key c hv
      · exact key _ hv
    | false =>
      simp only [Bool.false_eq_true, if_false] at he ⊢
      refine ⟨fun f _ => hF.fn f, ?_⟩
      have hs' : SR p base { s with tmps := putT s.tmps o.dst V.undef } ok B w (a.put o.dst undef) :=
        ⟨hs.heap, put_rel hs.tmps o.dst (by simp only [V.undef, VRel]; exact ⟨[], rfl, rfl⟩), by rw [put_defers]; exact hs.marks⟩
      exact opsG_sound hg hq hF r (i + 1) _ s' base ok B w _ Q hr he hs' hQ
theorem evG_sound (hg : p (markOps g) = false) (hq : EqOk E) (hE : FnOk E p) (hK : KnownOk E p) (hKI : KnownIn E) : ∀ n, Sound E.P p (evG E g n) n
  | 0 => ⟨fun c s e s' he => by simp [evG] at he, fun c s e s' he => by simp [evG] at he⟩
  | n + 1 => by
    have hS := evG_sound hg hq hE hK hKI n
    have hD : DrawOk E p (evG E g n) := fun id ops s s' hp he F base ok B w a Q hF hs hQ => draw_sound hS hq hE hK hKI hp id he hF hs hQ
    have base := ev_step hS hq hE hK hKI hD
    constructor
    · intro c s e s' he F bs ok B w a Q hc
      change evStepG E g (evG E g n) c s = some (e, s') at he
      unfold evStepG at he
      split at he
      · rename_i id ops
        simp only [Option.map_eq_some_iff, Prod.mk.injEq] at he
        obtain ⟨s1, he, rfl, rfl⟩ := he
        refine wpIn_region ?_
        rw [List.range_eq_range']
        have := opsG_sound hg hq hc.fence (ops := ops) ops.toList 0 s s1 bs ok B w a Q (by simp) he hc.st hc.post
        simpa using this
      · exact base.code _ s e s' he F bs ok B w a Q hc
    · intro c s e s' he F bs ok B w a Q hc
      exact base.loop c s e s' he F bs ok B w a Q hc
def tabL : List (Nat × Nat) → Nat → Option Nat
  | [], _ => none
  | x :: r, m => if Nat.beq x.1 m then some x.2 else tabL r m
def tabV (tbl : List (Nat × Nat)) (args : List V) (h : Heap) : Option (V × Heap) :=
  match args with
  | [.int .u64 (.ofNat m)] => (tabL tbl m).map fun r => (.int .i64 (Int.ofNat r), h)
  | _ => none
noncomputable def tabG (tbl : List (Nat × Nat)) (args : List V) (hp : U KB) (cnt : Nat) : KO :=
  match args with
  | [.int .u64 (.ofNat m)] => ooK hp cnt ((tabL tbl m).map fun r => .int .i64 (Int.ofNat r))
  | _ => .no
theorem tabL_mem : ∀ {tbl : List (Nat × Nat)} {m r : Nat}, tabL tbl m = some r → (m, r) ∈ tbl
  | x :: l, m, r, h => by
    unfold tabL at h
    split at h
    · rename_i hb
      obtain rfl := Nat.eq_of_beq_eq_true hb
      simp only [Option.some.injEq] at h; subst h
      simp
    · exact List.mem_cons_of_mem _ (tabL_mem h)
theorem tab_known (hg : p (markOps g) = false) (hq : EqOk E) (hE : FnOk E p) (hK : KnownOk E p) (hKI : KnownIn E) {n f : Nat} {tbl : List (Nat × Nat)}
    (ht : ∀ x ∈ tbl, ∀ h, bodyV E (evG E g n) f [.int .u64 (Int.ofNat x.1)] h = some (.int .i64 (Int.ofNat x.2), h)) : ∀ args h r h', tabV tbl args h = some (r, h') → CallS E.P p f args h r h' := by
  intro args h r h' hc
  unfold tabV at hc
  split at hc
  case h_2 => cases hc
  rename_i m
  simp only [Option.map_eq_some_iff, Prod.mk.injEq] at hc
  obtain ⟨r', h1, rfl, rfl⟩ := hc
  exact body_sound (evG_sound hg hq hE hK hKI n) hE (ht _ (tabL_mem h1) _)
theorem tabG_ok (tbl : List (Nat × Nat)) : KnS (tabG tbl) (tabV tbl) := by
  intro args args' hp cnt h v hp' cnt' ha hh hr
  unfold tabG at hr
  split at hr
  case h_2 => cases hr
  rename_i m
  obtain rfl := ha.np rfl
  obtain ⟨f1, rfl, rfl⟩ := ooK_ok hr
  simp only [Option.map_eq_some_iff] at f1
  obtain ⟨r, h1, rfl⟩ := f1
  exact ⟨_, h, by simp only [tabV, h1, Option.map_some], .inr rfl, hh⟩
end
end Go.Sim.Kr
end
section
namespace Go.Sim.Kr
open Go Go.Sim
set_option linter.unusedVariables false
set_option linter.unusedSimpArgs false

section
variable {E : Env} {rec : Rec} {p : Array Oper → Bool} {ok : Nat → Nat → Prop} {w : World} {B B' : Bd} {m : Nat} {h : Heap}
end
section
variable {K : KC} {C : Cl} {hp hp' : U KB} {cnt cnt' : Nat} {h : Heap} {v : V} {p : Array Oper → Bool}
end
end Go.Sim.Kr
end
section
namespace Go.Sim.Kr
open Go Go.Sim
set_option linter.unusedVariables false
set_option linter.unusedSimpArgs false

def withV (E : Env) (g : Nat) (F : List V → Heap → Option (V × Heap)) : Env := { E with known := fun x => if Nat.beq x g then some F else E.known x }
noncomputable def withG (K : KC) (g : Nat) (G : List V → U KB → Nat → KO) (E : Env) : KC := { K with E := E, kn := fun x => if Nat.beq x g then some G else K.kn x }
section
variable {K : KC} {C : Cl} {p : Array Oper → Bool}
theorem withG_ok (hK : KOk K C) (g : Nat) {G : List V → U KB → Nat → KO} {F : List V → Heap → Option (V × Heap)} (hG : KnS G F) : KOk (withG K g G (withV K.E g F)) C where
  keep := hK.keep
  ord := hK.ord
  kn := fun f G' h => by
    change (if Nat.beq f g then some G else K.kn f) = some G' at h
    change ∃ F', (if Nat.beq f g then some F else K.E.known f) = some F' ∧ KnS G' F'
    split at h
    · rename_i hb
      simp only [Option.some.injEq] at h; subst h
      rw [if_pos hb]
      exact ⟨_, rfl, hG⟩
    · rename_i hb
      rw [if_neg hb]
      exact hK.kn f G' h
  knn := fun f h => by
    change (if Nat.beq f g then some G else K.kn f) = none at h
    change (if Nat.beq f g then some F else K.E.known f) = none
    split at h
    · cases h
    · rename_i hb
      rw [if_neg hb]
      exact hK.knn f h
theorem withV_mok {E : Env} {g : Nat} {F : List V → Heap → Option (V × Heap)} (hM : MOk E p) (hf : E.frame g = false) (hL : Enters E g) (hF : ∀ args h r h', F args h = some (r, h') → CallS E.P p g args h r h') : MOk (withV E g F) p where
  eq := hM.eq
  fn := ⟨by
    intro x F' hx hF' args h r h' hr
    change (if Nat.beq x g then some F else E.known x) = some F' at hF'
    split at hF'
    · rename_i hb
      obtain rfl := Nat.eq_of_beq_eq_true hb
      change E.frame x = true at hx
      rw [hf] at hx
      cases hx
    · exact hM.fn.frame x F' hx hF' args h r h' hr, hM.fn.good⟩
  kn := by
    intro x F' hF'
    change (if Nat.beq x g then some F else E.known x) = some F' at hF'
    split at hF'
    · rename_i hb
      obtain rfl := Nat.eq_of_beq_eq_true hb
      obtain rfl := Option.some.inj hF'
      exact hF
    · exact hM.kn x F' hF'
  ki := by
    intro x F' hF'
    change (if Nat.beq x g then some F else E.known x) = some F' at hF'
    split at hF'
    · rename_i hb
      obtain rfl := Nat.eq_of_beq_eq_true hb
      exact hL
    · exact hM.ki x F' hF'
theorem kok_none {E : Env} {ord : Array Oper → List Nat} {mask : Nat → Nat} (hE : ∀ f, E.known f = none) : KOk { E := E, ord := ord, mask := mask, kn := fun _ => none } { ord := ord, keep := fun _ => true } :=
  ⟨fun _ => rfl, fun _ => rfl, (fun f G h => by cases h), fun f _ => hE f⟩
end
end Go.Sim.Kr
end
section
namespace Go.Sim.Kr
open Go Go.Sim
set_option linter.unusedVariables false
set_option linter.unusedSimpArgs false

structure SEnt where
  off : Nat
  len : Nat
  ep : Nat
  q1 : Nat
  q2 : Bool
  rest : List V
  cells : List V
  m : Nat
  esz : Nat
  fl : Bool
  pl : Bool
  v : V
section
variable {K : KC} {C : Cl} {hp hp' : U KB} {cnt cnt' : Nat} {h : Heap} {v : V}
theorem sameL_eq : ∀ {a b : List V}, V.sameL a b = true → a = b
  | [], [], _ => rfl
  | [], _ :: _, h => by cases h
  | _ :: _, [], h => by cases h
  | x :: a, y :: b, h => by
    have h' : (V.same x y && V.sameL a b) = true := h
    rw [Bool.and_eq_true] at h'
    rw [V.same_eq _ _ h'.1, sameL_eq h'.2]
end
end Go.Sim.Kr
end
section
namespace Go.Sim
open Go Go.RowKit Go.ChangeShapes Go.WideShapes Go.Deep
set_option linter.unusedVariables false
set_option linter.unusedSimpArgs false
theorem ev_soundP {E : Env} {p : Array Oper → Bool} (hq : EqOk E) (hE : FnOk E p) (hK : KnownOk E p) (hKI : KnownIn E) : ∀ n, Sound E.P p (ev E n) n
  | 0 => ⟨fun c s e s' he => by simp [ev] at he, fun c s e s' he => by simp [ev] at he⟩
  | n + 1 => ev_step (ev_soundP hq hE hK hKI n) hq hE hK hKI fun id ops s s' hp he F base ok B w a Q hF hs hQ =>
      draw_sound (ev_soundP hq hE hK hKI n) hq hE hK hKI hp id he hF hs hQ
theorem calls_of_callVP {E : Env} {p : Array Oper → Bool} (hq : EqOk E) (hE : FnOk E p) (hK : KnownOk E p) (hKI : KnownIn E) {f : FuncId} {args : List V} {r : V} {h' : Heap}
    (he : callV E (om E) f args [[]] = some (r, h')) {ok : Nat → Nat → Prop} {w : World} {args' : Array Value} (hok : ∀ b n, ok b n → b < w.heap.size) (hG : Gl p ok w) (ha : VRelL ok w Bd.none_ args args'.toList) {R : Ending → World → Prop}
    (hR : ∀ ok' B' w' v, After p ok Bd.none_ w 1 h' r ok' B' w' v → R (.returned v) w') : Calls E.P f args' w R := by
  obtain ⟨n, hn⟩ := Fs.fuel E (callV_fs E f args [[]]) he
  have h := call_sound (ev_soundP hq hE hK hKI n) hE hK hn ok Bd.none_ w args'.toList R (HR.empty hok hG) ha hR
  rw [Array.toArray_toList] at h
  exact callsIn_wide.1 h
theorem law_callsP {E : Env} {p : Array Oper → Bool} (hq : EqOk E) (hE : FnOk E p) (hK : KnownOk E p) (hKI : KnownIn E) {f : FuncId} {args : List V}
    (hk : E.known f = none) (hm : E.mode f = .pure) (hf : V.flatL args = true) (hv : viewArgs [[]] args = some args) (he : pureV E (om E) f false args = some (.bool true)) {w : World} (hG : Gl p (fun b _ => b < w.heap.size) w) {args' : Array Value} (ha : VRelL (fun b _ => b < w.heap.size) w Bd.none_ args args'.toList) :
    Calls E.P f args' w fun e w' => e = .returned (.bool true) ∧ Below w.heap.size w w' := by
  have hc : callV E (om E) f args [[]] = some (.bool true, [[]]) := by
    rw [callV_pure hk hm, hv, hf]
    simp only [Option.bind_some, Bool.not_true, he, Option.map_some]
  refine calls_of_callVP hq hE hK hKI hc (fun b _ hb => hb) hG ha fun ok' B' w' v hA => ?_
  have hval := hA.val
  simp only [VRel] at hval
  subst hval
  exact ⟨rfl, hA.ext.os, hA.ext.tape, hA.ext.output, hA.ext.size, fun k hk => hA.ext.same k hk fun d j => by simp [Bd.none_, Ent.blk]⟩
theorem Kr.trueV_frame : ∀ args h r h', Kr.trueV args h = some (r, h') → h'.length = h.length ∧ ∀ d j, (∀ v ∈ args, ∀ d' j' o e, v = .pref d' j' o e → d' ≠ d ∨ j' ≠ j) → h'.get d j = h.get d j := by
  intro args h r h' hr
  cases args with
  | nil =>
    simp only [Kr.trueV, Option.some.injEq, Prod.mk.injEq] at hr
    obtain ⟨rfl, rfl⟩ := hr
    exact ⟨rfl, fun _ _ _ => rfl⟩
  | cons a l => cases hr
end Go.Sim
end
