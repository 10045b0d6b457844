/-
  image.Segments; playpenref08.Same of two that are alike.
  The law ImageGaps, walked.
  Plain facts: what lies between the segments says nothing.
-/
import Derived.Test.YtihmfdmojnfdpaaNd
import Derived.Test.YtihmfdmojnfdpaaMd
section
namespace Go.Proofs.Ytihmfdmojnfdpaa
open Go Go.Sim
set_option maxRecDepth 100000
set_option linter.unusedSimpArgs false
set_option linter.unusedVariables false

theorem Segments_ok (l : List UInt8) (h1 : 64 ≤ l.length) (h2 : l.length ≤ 1048576) (B : List Blk) (r : Heap) : callV E (om E) 11 [bs l] (B :: r) = some (.tuple [.sref 0 B.length 0 4 4 (2, false), ii 0], (B ++ [.row (cat eSpan (spansP l)) 4 2 true true]) :: r) := by
  rw [call_11]
  have hSp : ∀ B r, callV E (om E) 21 [bs l] (B :: r) = some (.sref 0 B.length 0 4 4 (2, false), (B ++ [.row (cat eSpan (spansP l)) 4 2 true true]) :: r) := spansOf l (by omega) (by omega)
  have : bodyV E (om E) 11 [bs l] [[]] = some (.tuple [.sref 0 0 0 4 4 (2, false), ii 0], [[.row (cat eSpan (spansP l)) 4 2 true true]]) := by
    apply bo_11
    simp (disch := omega) [if_pos, if_neg, iteK_pos, iteK_neg, Try.f11, sized, h1, h2, hSp]
  simp (disch := omega) [if_pos, if_neg, iteK_pos, iteK_neg, this]
theorem Segments_no (l : List UInt8) (hl : l.length < 2 ^ 63) (h : ¬ (64 ≤ l.length ∧ l.length ≤ 1048576)) (B : List Blk) (r : Heap) : callV E (om E) 11 [bs l] (B :: r) = some (.tuple [.nilslice, ii 80], B :: r) := by
  rw [call_11]
  have : bodyV E (om E) 11 [bs l] [[]] = some (.tuple [.nilslice, ii 80], [[]]) := by
    apply bo_11
    by_cases h1 : l.length < 64
    · simp (disch := omega) [if_pos, if_neg, iteK_pos, iteK_neg, Try.f11, sized, h1]
    · simp (disch := omega) [if_pos, if_neg, iteK_pos, iteK_neg, Try.f11, sized, h1, (by omega : ¬ l.length ≤ 1048576)]
  simp (disch := omega) [if_pos, if_neg, iteK_pos, iteK_neg, this]
theorem neqInstr (p q : Operand) (a b a' b' : Int) : binO E .neq 74 p q (.agg [w8 a, w32 b]) (.agg [w8 a', w32 b']) = some (bb (!((a == a') && (b == b')))) :=
  binO_neq (eqV_two (n := 196) (by rw [E_P]; exact Try.underlying74) (by kernel_rfl) rfl rfl rfl rfl (by rw [E_P]; simp) (by rw [E_P]; simp) (eqV_int (by rw [E_P]; simp)) (eqV_int (by rw [E_P]; simp)))
theorem neqExport (p q : Operand) (a a' : List UInt8) (b b' : Int) : binO E .neq 76 p q (.agg [.str a, w32 b]) (.agg [.str a', w32 b']) = some (bb (!((a == a') && (b == b')))) :=
  binO_neq (eqV_two (n := 196) (by rw [E_P]; exact Try.underlying76) (by kernel_rfl) rfl rfl rfl rfl (by rw [E_P]; simp) (by rw [E_P]; simp) (eqV_str (by rw [E_P]; simp)) (eqV_int (by rw [E_P]; simp)))
/-- The frame of Same behind its first test. -/
abbrev sameL (x : Img) (l : List V) : List V := .pref 0 0 0 0 :: lst eInstr x.code :: ii x.code.length :: .pref 0 1 0 0 :: lst eInstr x.code :: ii x.code.length :: bb false :: bb false ::
  .pref 0 0 1 0 :: ws x.jumps :: ii x.jumps.length :: .pref 0 1 1 0 :: ws x.jumps :: ii x.jumps.length :: bb false :: bb false :: bb false ::
  .pref 0 0 2 0 :: bs x.data :: .str x.data :: .pref 0 1 2 0 :: bs x.data :: .str x.data :: bb false :: bb false :: bb false ::
  .pref 0 0 3 0 :: w32 x.zero.toNat :: .pref 0 1 3 0 :: w32 x.zero.toNat :: bb false :: bb false :: bb false ::
  .pref 0 0 4 0 :: w32 x.stack.toNat :: .pref 0 1 4 0 :: w32 x.stack.toNat :: bb false :: bb false :: bb false ::
  .pref 0 0 5 0 :: lst eExport x.names :: ii x.names.length :: .pref 0 1 5 0 :: lst eExport x.names :: ii x.names.length :: bb false :: bb false :: l
abbrev sameH (x : Img) : Heap := [[.row [lst eInstr x.code, ws x.jumps, bs x.data, w32 x.zero.toNat, w32 x.stack.toNat, lst eExport x.names] 0 6 true false,
  .row [lst eInstr x.code, ws x.jumps, bs x.data, w32 x.zero.toNat, w32 x.stack.toNat, lst eExport x.names] 0 6 true false]]
theorem Same_self (lent) (x : Img) (h1 : x.code.length < 2 ^ 40) (h2 : x.jumps.length < 2 ^ 40) (h3 : x.data.length < 2 ^ 40) (h4 : x.names.length < 2 ^ 40) : pureV E (om E) 12 lent [imgV x, imgV x] = some (bb true) := by
  apply pu_12
  simp (disch := omega) [if_pos, if_neg, iteK_pos, iteK_neg, Try.f12]
  refine loop_use (dyn := []) (fun (i : Nat) => imgV x :: imgV x :: .pref 0 0 0 0 :: .pref 0 1 0 0 :: xx :: ii i :: xx :: xx :: sameL x (pois 54)) (fun i => sameH x) (fun i => i ≤ x.code.length) (fun i => x.code.length - i) hint_12_0 (by kernel_rfl) ?_ 0 (by simp) (by simp)
  intro i hi IH
  rw [lpB_eq]
  by_cases hlt : i < x.code.length
  · simp (disch := omega) [if_pos, if_neg, iteK_pos, iteK_neg, hlt, neqInstr]
    exact IH (i + 1) _ _ (by omega) (by omega) (by simp)
  · obtain rfl : i = x.code.length := by omega
    simp (disch := omega) [if_pos, if_neg, iteK_pos, iteK_neg, hlt]
    clear IH hlt hi
    refine loop_use (dyn := []) (fun (i : Nat) => imgV x :: imgV x :: .pref 0 0 0 0 :: .pref 0 1 0 0 :: xx :: ii x.code.length :: ii i :: xx :: sameL x (ii x.code.length :: .pref 0 0 0 0 :: lst eInstr x.code :: ii x.code.length :: bb false :: pois 49)) (fun i => sameH x) (fun i => i ≤ x.jumps.length) (fun i => x.jumps.length - i) hint_12_1 (by kernel_rfl) ?_ 0 (by simp) (by simp)
    intro i hi IH
    rw [lpB_eq]
    by_cases hlt : i < x.jumps.length
    · simp (disch := omega) [if_pos, if_neg, iteK_pos, iteK_neg, hlt]
      exact IH (i + 1) _ _ (by omega) (by omega) (by simp)
    · obtain rfl : i = x.jumps.length := by omega
      simp (disch := omega) [if_pos, if_neg, iteK_pos, iteK_neg, hlt]
      clear IH hlt hi
      refine loop_use (dyn := []) (fun (i : Nat) => imgV x :: imgV x :: .pref 0 0 0 0 :: .pref 0 1 0 0 :: xx :: ii x.code.length :: ii x.jumps.length :: ii i :: sameL x (ii x.code.length :: .pref 0 0 0 0 :: lst eInstr x.code :: ii x.code.length :: bb false :: xx :: xx :: xx :: xx :: xx :: xx :: xx :: xx :: xx :: xx :: xx :: xx :: xx :: 
          ii x.jumps.length :: .pref 0 0 1 0 :: ws x.jumps :: ii x.jumps.length :: bb false :: pois 31)) (fun i => sameH x) (fun i => i ≤ x.names.length) (fun i => x.names.length - i) hint_12_2 (by kernel_rfl) ?_ 0 (by simp) (by simp)
      intro i hi IH
      rw [lpB_eq]
      by_cases hlt : i < x.names.length
      · simp (disch := omega) [if_pos, if_neg, iteK_pos, iteK_neg, hlt, neqExport]
        exact IH (i + 1) _ _ (by omega) (by omega) (by simp)
      · simp (disch := omega) [if_pos, if_neg, iteK_pos, iteK_neg, hlt]
end Go.Proofs.Ytihmfdmojnfdpaa
end
section
namespace Go.Proofs.Ytihmfdmojnfdpaa
open Go Go.Sim
set_option maxRecDepth 100000
set_option linter.unusedSimpArgs false
set_option linter.unusedVariables false

/-- The places that say something: the segments and the header. -/
def ownS (l : List UInt8) : List Span := spansP l ++ [⟨0, 64⟩]
def inS (i : Nat) (s : Span) : Bool := decide (s.place.toNat ≤ i ∧ i < s.place.toNat + s.len.toNat)
def gapB (l : List UInt8) (fill : UInt8) (i : Nat) : UInt8 := if (ownS l).any (inS i) then l.getD i 0 else fill + UInt8.ofNat i
def gapP (l : List UInt8) (fill : UInt8) (n : Nat) : List UInt8 := (List.range n).map (gapB l fill)
theorem gap_own {l : List UInt8} {fill : UInt8} {i : Nat} (h : i < l.length) (ho : (ownS l).any (inS i) = true) : cat eU8 ((gapP l fill i).take i) ++ [V.int .u8 (l[i].toNat : Int)] = cat eU8 (gapP l fill (i + 1)) := by
  have : gapB l fill i = l[i] := by unfold gapB; rw [if_pos ho, List.getD, List.getElem?_eq_getElem h]; rfl
  rw [List.take_of_length_le (by simp [gapP]), gapP, gapP, List.range_succ, List.map_append, cat_append, List.map_singleton, this]
  rfl
theorem gap_not {l : List UInt8} {fill : UInt8} {i : Nat} (h : i < l.length) (ho : (ownS l).any (inS i) = false) : cat eU8 ((gapP l fill i).take i) ++ [V.int .u8 (IntKind.u8.wrap ((fill.toNat : Int) + IntKind.u8.wrap (i : Int)))] = cat eU8 (gapP l fill (i + 1)) := by
  have : gapB l fill i = fill + UInt8.ofNat i := by unfold gapB; rw [if_neg (by rw [ho]; simp)]
  rw [List.take_of_length_le (by simp [gapP]), gapP, gapP, List.range_succ, List.map_append, cat_append, List.map_singleton, this]
  have e : ((fill + UInt8.ofNat i).toNat : Int) = IntKind.u8.wrap ((fill.toNat : Int) + IntKind.u8.wrap (i : Int)) := by
    rw [IntKind.wrap_u8, IntKind.wrap_u8, UInt8.toNat_add, UInt8.toNat_ofNat']
    omega
  rw [← e]
  rfl
theorem wordsOf_len : ∀ l : List UInt8, (wordsOf l).length ≤ l.length
  | [] => by simp [wordsOf]
  | [_] => by simp [wordsOf]
  | [_, _] => by simp [wordsOf]
  | [_, _, _] => by simp [wordsOf]
  | a :: b :: c :: d :: r => by
    have := wordsOf_len r
    simp [wordsOf]; omega
theorem expP_len (l : List UInt8) (a : Nat) (acc : List Export) (h : acc.length ≤ 64) : (expP l a acc).1.length ≤ 64 := by
  rw [expP]
  split
  · split
    · simp
    · split
      · exact expP_len l _ _ (by simp; omega)
      · simp
  · exact h
termination_by l.length - a
theorem parse_len (l : List UInt8) : (parseP l).1.code.length ≤ 16384 ∧ (parseP l).1.jumps.length ≤ l.length ∧ (parseP l).1.data.length ≤ l.length ∧ (parseP l).1.names.length ≤ 64 := by
  have q1 := segP_len l 1
  have q2 := segP_len l 2
  have w1 := wordsOf_len (segP l 1)
  have d0 := decI_len (segP l 0) 0 0 (by omega)
  have x3 := expP_len (segP l 3) 0 [] (by simp)
  unfold parseP
  repeat' split
  all_goals first | (simp [img0]; done) | exact ⟨by simpa using d0, by simp only; omega, by simp only; omega, x3⟩
abbrev gapL (l : List UInt8) (fill : UInt8) (p : Img × Nat × Nat) (c : V) (i : Nat) (own k : V) (r : List V) : List V :=
  bs l :: w8 fill.toNat :: xx :: xx :: bb false :: .pref 0 0 0 0 :: ii p.2.1 :: ii 0 :: .sref 0 1 0 5 5 (2, false) :: ii 0 :: c :: ii i :: own :: k :: xx :: xx :: xx :: xx :: xx :: bb true :: bb false ::
  parV p :: bs l :: parV p :: imgV p.1 :: ii p.2.1 :: ii 0 :: .tuple [.sref 0 1 0 4 4 (2, false), ii 0] :: bs l :: .tuple [.sref 0 1 0 4 4 (2, false), ii 0] :: .sref 0 1 0 4 4 (2, false) :: ii 0 :: ii 0 :: bb false :: ii 0 :: bb false ::
  .sref 0 1 0 4 4 (2, false) :: .agg [.int .u32 0, .int .u32 64] :: .sref 0 2 0 1 0 (2, true) :: .sref 0 1 0 5 5 (2, false) :: r
abbrev gapH (p : Img × Nat × Nat) (S : List Span) (c : List V) (e : Nat) : Heap := [[.row [lst eInstr p.1.code, ws p.1.jumps, bs p.1.data, w32 p.1.zero.toNat, w32 p.1.stack.toNat, lst eExport p.1.names] 0 6 true false,
  .row (cat eSpan S) 5 2 true true, .row [.int .u32 0, .int .u32 64] 0 2 true true, .row c e 1 true true]]
set_option maxHeartbeats 4000000 in
theorem ImageGaps (l : List UInt8) (hl : l.length < 2 ^ 63) (fill : UInt8) (hG : (parseP l).2.2 = 0 → parseP (sealP (gapP l fill l.length)) = parseP l) : pureV E (om E) 4 false [bs l, w8 fill.toNat] = some (bb true) := by
  apply pu_4
  have hP := Parse l hl
  by_cases h1 : (parseP l).2.2 = 0
  · have hh : (headP l).2 = 0 := parse_head h1
    obtain ⟨hlo, hhi, _⟩ := headP_ok hh
    have hS := Segments_ok l hlo hhi
    have hl4 : (spansP l).length = 4 := rfl
    have hrow : List.take 8 (cat eSpan (spansP l)) ++ [V.int .u32 0, V.int .u32 64] = cat eSpan (ownS l) := rfl
    simp (disch := omega) [if_pos, if_neg, iteK_pos, iteK_neg, Try.f4, lives, hP, h1, hS, hl4, hrow]
    have hSl : (ownS l).length = 5 := rfl
    have hlc : ∀ x, x = ownS l → (cat eSpan x).length = 10 := fun x hx => by subst hx; rfl
    have hG' := hG h1
    rw [← hG'] at h1
    generalize hp : parseP l = p at hG' ⊢
    rw [hG'] at h1
    obtain ⟨S, hS5⟩ : ∃ S, S = ownS l := ⟨_, rfl⟩
    rw [← hS5] at hSl ⊢
    have hlc' := hlc S hS5
    refine loop_use (dyn := []) (fun (a : Nat × Nat) => gapL l fill p (.sref 0 3 0 a.1 a.2 (1, false)) a.1 xx xx (pois 76)) (fun a => gapH p S (cat eU8 (gapP l fill a.1)) a.2) (fun a => a.1 ≤ l.length) (fun a => l.length - a.1) hint_4_0 (by kernel_rfl) ?_ (0, 0) (by simp) (by simp [gapP, gapL, gapH])
    rintro ⟨i, e⟩ hi IH
    rw [lpB_eq]
    dsimp only at hi ⊢
    by_cases hlt : i < l.length
    · simp (disch := omega) [if_pos, if_neg, iteK_pos, iteK_neg, hlt]
      refine loop_use (dyn := []) (fun (k : Nat) => gapL l fill p (.sref 0 3 0 i e (1, false)) i (bb ((S.take k).any (inS i))) (ii k) (ii i :: bs l :: ii l.length :: bb true :: pois 72)) (fun k => gapH p S (cat eU8 (gapP l fill i)) e) (fun k => k ≤ 5) (fun k => 5 - k) hint_4_1 (by kernel_rfl) ?_ 0 (by simp) (by simp)
      intro k hk IH2
      rw [lpB_eq]
      by_cases hk5 : k < 5
      · have q0 : (cat eSpan S)[k * 2]? = some (w32 S[k].place.toNat) := by
          have := cat_get eSpan S k 0 (by simp)
          simpa [List.getElem?_eq_getElem (show k < S.length by omega)] using this
        have q1 : (cat eSpan S)[k * 2 + 1]? = some (w32 S[k].len.toNat) := by
          have := cat_get eSpan S k 1 (by simp)
          simpa [List.getElem?_eq_getElem (show k < S.length by omega)] using this
        have b1 := S[k].place.toNat_lt
        have b2 := S[k].len.toNat_lt
        have hany : (S.take (k + 1)).any (inS i) = ((S.take k).any (inS i) || inS i S[k]) := by rw [take_snoc (by omega), List.any_append]; simp only [List.any_cons, List.any_nil, Bool.or_false]
        have q0' : ∀ h, (cat eSpan S)[k * 2]'h = w32 S[k].place.toNat := fun h => by rw [List.getElem?_eq_getElem h] at q0; exact Option.some.inj q0
        have q1' : ∀ h, (cat eSpan S)[k * 2 + 1]'h = w32 S[k].len.toNat := fun h => by rw [List.getElem?_eq_getElem h] at q1; exact Option.some.inj q1
        have r1 : S[k].place.toNat ≤ i → i < S[k].place.toNat + S[k].len.toNat → (S.take (k + 1)).any (inS i) = true := fun a b => by rw [hany]; simp [inS, a, b]
        have r2 : ¬ (S[k].place.toNat ≤ i ∧ i < S[k].place.toNat + S[k].len.toNat) → (S.take (k + 1)).any (inS i) = (S.take k).any (inS i) := fun a => by rw [hany]; unfold inS; rw [decide_eq_false a, Bool.or_false]
        by_cases c1 : S[k].place.toNat ≤ i
        · by_cases c2 : i < S[k].place.toNat + S[k].len.toNat
          · simp (disch := omega) [if_pos, if_neg, iteK_pos, iteK_neg, hk5, q0', q1', c1, c2]
            exact IH2 (k + 1) _ _ (by omega) (by omega) (by simp [r1 c1 c2])
          · simp (disch := omega) [if_pos, if_neg, iteK_pos, iteK_neg, hk5, q0', q1', c1, c2]
            exact IH2 (k + 1) _ _ (by omega) (by omega) (by simp [r2 (fun h => c2 h.2)])
        · simp (disch := omega) [if_pos, if_neg, iteK_pos, iteK_neg, hk5, q0', q1', c1]
          exact IH2 (k + 1) _ _ (by omega) (by omega) (by simp [r2 (fun h => c1 h.1)])
      · obtain rfl : k = 5 := by omega
        rw [List.take_of_length_le (by omega)]
        obtain ⟨o, ho⟩ : ∃ o, o = S.any (inS i) := ⟨_, rfl⟩
        rw [← ho]
        have hgl : (gapP l fill i).length = i := by simp [gapP]
        cases o with
        | true =>
          have hr : cat eU8 ((gapP l fill i).take i) ++ [V.int .u8 (l[i].toNat : Int)] = cat eU8 (gapP l fill (i + 1)) := gap_own hlt (by rw [← hS5]; exact ho.symm)
          simp (disch := omega) [if_pos, if_neg, iteK_pos, iteK_neg, hgl, hr]
          exact IH (i + 1, e + 1) _ _ (by simp only; omega) (by simp only; omega) (by simp [gapL, gapH])
        | false =>
          have hr : cat eU8 ((gapP l fill i).take i) ++ [V.int .u8 (IntKind.u8.wrap ((fill.toNat : Int) + IntKind.u8.wrap (i : Int)))] = cat eU8 (gapP l fill (i + 1)) := gap_not hlt (by rw [← hS5]; exact ho.symm)
          simp (disch := omega) [if_pos, if_neg, iteK_pos, iteK_neg, hgl, hr]
          exact IH (i + 1, e + 1) _ _ (by simp only; omega) (by simp only; omega) (by simp [gapL, gapH])
    · obtain rfl : i = l.length := by omega
      have hgl : (gapP l fill l.length).length = l.length := by simp [gapP]
      obtain ⟨c, hc⟩ : ∃ c, c = gapP l fill l.length := ⟨_, rfl⟩
      rw [← hc] at hgl hG' ⊢
      have e10 : V.scon (V.canonL (cutCells (cat eU8 c) 0 l.length 1)) 0 l.length false = bs c := res_lst eU8 hgl.symm rfl
      have hSc := Seal true c (by omega)
      rw [if_pos (by omega)] at hSc
      have hPd := Parse (sealP c) (by rw [sealP_length c (by omega)]; omega)
      rw [hG'] at hPd
      obtain ⟨n1, n2, n3, n4⟩ := parse_len l
      rw [hp] at n1 n2 n3 n4
      have hSa := Same_self false p.1 (by omega) (by omega) (by omega) (by omega)
      simp (disch := omega) [if_pos, if_neg, iteK_pos, iteK_neg, hlt, e10, hSc, hPd, hSa, h1]
  · by_cases hb : 64 ≤ l.length ∧ l.length ≤ 1048576
    · have hS := Segments_ok l hb.1 hb.2
      simp (disch := omega) [if_pos, if_neg, iteK_pos, iteK_neg, Try.f4, lives, hP, h1, hS]
    · have hS := Segments_no l hl hb
      simp (disch := omega) [if_pos, if_neg, iteK_pos, iteK_neg, Try.f4, lives, hP, h1, hS]
end Go.Proofs.Ytihmfdmojnfdpaa
end
section
namespace Go.Proofs.Ytihmfdmojnfdpaa
open Go Go.Sim

theorem word_congr {a b : List UInt8} {n : Nat} (ha : n + 4 ≤ a.length) (hb : n + 4 ≤ b.length) (h : ∀ j, j < 4 → a[n + j]? = b[n + j]?) : wordAt a n = wordAt b n := by
  obtain ⟨p, q, r, s, t, hd⟩ := drop4 ha
  obtain ⟨p', q', r', s', t', hd'⟩ := drop4 hb
  have e : ∀ j, j < 4 → (a.drop n)[j]? = (b.drop n)[j]? := fun j hj => by rw [List.getElem?_drop, List.getElem?_drop]; exact h j hj
  rw [hd, hd'] at e
  have e0 := e 0 (by omega); have e1 := e 1 (by omega); have e2 := e 2 (by omega); have e3 := e 3 (by omega)
  simp at e0 e1 e2 e3
  unfold wordAt
  rw [hd, hd', e0, e1, e2, e3]
theorem with4_with4 (l : List UInt8) (n : Nat) (x y : UInt32) (h : n + 4 ≤ l.length) : with4 (with4 l n x) n y = with4 l n y := by
  have h1 : (l.take n ++ bytes4 x ++ l.drop (n + 4)).take n = l.take n := by rw [List.append_assoc]; exact List.take_left' (by simp; omega)
  have h2 : (l.take n ++ bytes4 x ++ l.drop (n + 4)).drop (n + 4) = l.drop (n + 4) := List.drop_left' (by simp; omega)
  show (with4 l n x).take n ++ bytes4 y ++ (with4 l n x).drop (n + 4) = _
  unfold with4
  rw [h1, h2]
theorem with4_get {l : List UInt8} {n i : Nat} (x : UInt32) (h : n + 4 ≤ l.length) (hi : i < n ∨ n + 4 ≤ i) : (with4 l n x)[i]? = l[i]? := by
  unfold with4
  rcases hi with hi | hi
  · rw [List.append_assoc, List.getElem?_append_left (by simp; omega), List.getElem?_take_of_lt hi]
  · rw [List.getElem?_append_right (by simp; omega), List.getElem?_drop]
    congr 1
    simp; omega
theorem seal_get {l : List UInt8} {i : Nat} (h : 12 ≤ l.length) (hi : i < 8 ∨ 12 ≤ i) : (sealP l)[i]? = l[i]? := by
  unfold sealP
  rw [with4_get _ (by rw [with4_length _ (by omega)]; omega) hi, with4_get _ (by omega) hi]
theorem seal_seal {l : List UInt8} (h : 12 ≤ l.length) : wordAt (sealP (sealP l)) 8 = wordAt (sealP l) 8 := by
  rw [seal_word (by rw [sealP_length l h]; exact h), seal_word h]
  unfold sealP
  rw [with4_with4 _ _ _ _ (by rw [with4_length _ (by omega)]; omega), with4_with4 _ _ _ _ (by omega)]
theorem gap_get {l : List UInt8} {fill : UInt8} {i : Nat} (h : i < l.length) (ho : (ownS l).any (inS i) = true) : (gapP l fill l.length)[i]? = l[i]? := by
  unfold gapP
  rw [List.getElem?_map, List.getElem?_range h, Option.map_some, gapB, if_pos ho, List.getD, List.getElem?_eq_getElem h]
  rfl
theorem firstLap_none {s : Span} {l : List Span} {j : Nat} (h : firstLap s l j = none) : ∀ k, j ≤ k → (hk : k < l.length) → lap s l[k] = false := by
  intro k hjk hk
  rw [firstLap] at h
  rw [dif_pos (by omega)] at h
  split at h
  · cases h
  · rename_i hn
    by_cases hq : j = k
    · subst hq; simpa using hn
    · exact firstLap_none h k (by omega) hk
termination_by l.length - j
theorem lapFrom_none {l : List Span} {i : Nat} (h : lapFrom l i = none) : ∀ k, i ≤ k → (hk : k < l.length) → firstLap l[k] (l.take k) 0 = none := by
  intro k hik hk
  rw [lapFrom] at h
  rw [dif_pos (by omega)] at h
  split at h
  · cases h
  · rename_i hn
    by_cases hq : i = k
    · subst hq; exact hn
    · exact lapFrom_none h k (by omega) hk
termination_by l.length - i
/-- A header that is taken: its spans lie within the bytes, and those that hold something behind the header. -/
theorem head_spans {l : List UInt8} (h : (headP l).2 = 0) (i : Nat) (hi : i < 4) : (spanI l i).stop ≤ l.length ∧ ((spanI l i).len.toNat = 0 ∨ 64 ≤ (spanI l i).place.toNat) := by
  obtain ⟨hlo, hhi, g0, g1, g2, g3⟩ := headP_ok h
  have hnone : lapFrom (⟨0, 64⟩ :: spansP l) 0 = none := by
    unfold headP at h
    rw [if_neg (by omega), if_neg (by omega)] at h
    by_cases h3 : l.take 4 ≠ [80, 69, 78, 33]
    · simp [h3] at h
    rw [if_neg h3] at h
    by_cases h4 : wordAt l 4 ≠ 1
    · simp [h4] at h
    rw [if_neg h4] at h
    by_cases h5 : wordAt (sealP l) 8 ≠ wordAt l 8
    · simp [h5] at h
    rw [if_neg h5] at h
    by_cases h6 : wordAt l 56 ≠ 0
    · simp [h6] at h
    rw [if_neg h6] at h
    by_cases h7 : wordAt l 60 ≠ 0
    · simp [h7] at h
    rw [if_neg h7, if_neg (by omega), if_neg (by omega), if_neg (by omega), if_neg (by omega)] at h
    split at h
    · simp at h
    · assumption
  have hf := fun k hk => lapFrom_none hnone k (Nat.zero_le k) hk
  have hl : ∀ k (hk : k + 1 < (⟨0, 64⟩ :: spansP l).length), lap ((⟨0, 64⟩ :: spansP l)[k + 1]'hk) ⟨0, 64⟩ = false := by
    intro k hk
    have := firstLap_none (hf (k + 1) hk) 0 (Nat.zero_le 0) (by simp)
    simpa using this
  have key : ∀ s : Span, lap s ⟨0, 64⟩ = false → s.len.toNat = 0 ∨ 64 ≤ s.place.toNat := by
    intro s hs
    have e1 : (0 : UInt32).toNat = 0 := rfl
    have e2 : (64 : UInt32).toNat = 64 := rfl
    unfold lap at hs
    simp only [e1, e2, decide_eq_false_iff_not] at hs
    omega
  have hi4 : i = 0 ∨ i = 1 ∨ i = 2 ∨ i = 3 := by omega
  rcases hi4 with rfl | rfl | rfl | rfl
  · exact ⟨g0, key _ (hl 0 (by simp [spansP]))⟩
  · exact ⟨g1, key _ (hl 1 (by simp [spansP]))⟩
  · exact ⟨g2, key _ (hl 2 (by simp [spansP]))⟩
  · exact ⟨g3, key _ (hl 3 (by simp [spansP]))⟩
theorem own_head {l : List UInt8} {i : Nat} (h : i < 64) : (ownS l).any (inS i) = true := by
  unfold ownS
  rw [List.any_append]
  have : inS i ⟨0, 64⟩ = true := by
    have e1 : (0 : UInt32).toNat = 0 := rfl
    have e2 : (64 : UInt32).toNat = 64 := rfl
    unfold inS; simp only [e1, e2, decide_eq_true_eq]; omega
  simp [this]
theorem own_seg {l : List UInt8} {i k : Nat} (hk : k < 4) (h : (spanI l k).place.toNat ≤ i ∧ i < (spanI l k).place.toNat + (spanI l k).len.toNat) : (ownS l).any (inS i) = true := by
  unfold ownS
  rw [List.any_append]
  have : inS i (spanI l k) = true := by unfold inS; simpa using h
  have hk4 : k = 0 ∨ k = 1 ∨ k = 2 ∨ k = 3 := by omega
  rcases hk4 with rfl | rfl | rfl | rfl <;> simp [spansP, this]
/-- What two files have in common that are read alike. -/
theorem parse_alike {l d : List UInt8} (h : (headP l).2 = 0) (hlen : d.length = l.length) (hsum : wordAt (sealP d) 8 = wordAt d 8) (hget : ∀ i, i < l.length → (ownS l).any (inS i) = true → (i < 8 ∨ 12 ≤ i) → d[i]? = l[i]?) : parseP d = parseP l := by
  obtain ⟨hlo, hhi, g0, g1, g2, g3⟩ := headP_ok h
  have hhead : ∀ i, i < 64 → (i < 8 ∨ 12 ≤ i) → d[i]? = l[i]? := fun i hi h => hget i (by omega) (own_head hi) h
  have hw : ∀ n, n + 4 ≤ 64 → (n + 4 ≤ 8 ∨ 12 ≤ n) → wordAt d n = wordAt l n := by
    intro n hn h8
    exact word_congr (by omega) (by omega) fun j hj => hhead _ (by omega) (by omega)
  have hsp : ∀ i, i < 4 → spanI d i = spanI l i := by
    intro i hi
    unfold spanI
    rw [hw _ (by omega) (by omega), hw _ (by omega) (by omega)]
  have ht : d.take 4 = l.take 4 := by
    apply List.ext_getElem?
    intro i
    by_cases hi : i < 4
    · rw [List.getElem?_take_of_lt hi, List.getElem?_take_of_lt hi]; exact hhead i (by omega) (by omega)
    · rw [List.getElem?_eq_none (by simp; omega), List.getElem?_eq_none (by simp; omega)]
  have hsps : spansP d = spansP l := by unfold spansP; rw [hsp 0 (by omega), hsp 1 (by omega), hsp 2 (by omega), hsp 3 (by omega)]
  have hh : headP d = headP l := by
    have hs2 := (head_sum h).2
    unfold headP
    rw [hlen, ht, hw 4 (by omega) (by omega), hw 56 (by omega) (by omega), hw 60 (by omega) (by omega), hsp 0 (by omega), hsp 1 (by omega), hsp 2 (by omega), hsp 3 (by omega), hsps]
    simp only [hsum, hs2, ne_eq, not_true_eq_false, if_false]
  have hseg : ∀ i, i < 4 → segP d i = segP l i := by
    intro i hi
    unfold segP
    rw [hsp i hi]
    obtain ⟨hst, h0⟩ := head_spans h i hi
    unfold Span.stop at hst
    apply List.ext_getElem?
    intro j
    by_cases hj : j < (spanI l i).len.toNat
    · rw [List.getElem?_take_of_lt hj, List.getElem?_take_of_lt hj, List.getElem?_drop, List.getElem?_drop]
      exact hget _ (by omega) (own_seg hi ⟨by omega, by omega⟩) (by omega)
    · rw [List.getElem?_eq_none (by simp; omega), List.getElem?_eq_none (by simp; omega)]
  unfold parseP
  rw [hh, hseg 0 (by omega), hseg 1 (by omega), hseg 2 (by omega), hseg 3 (by omega), hsp 0 (by omega), hsp 3 (by omega), hw 12 (by omega) (by omega), hw 48 (by omega) (by omega), hw 52 (by omega) (by omega)]
theorem gaps {l : List UInt8} (fill : UInt8) (h : (parseP l).2.2 = 0) : parseP (sealP (gapP l fill l.length)) = parseP l := by
  have hh := parse_head h
  obtain ⟨hlo, hhi, _⟩ := headP_ok hh
  have hgl : (gapP l fill l.length).length = l.length := by simp [gapP]
  refine parse_alike hh (by rw [sealP_length _ (by omega), hgl]) (seal_seal (by omega)) fun i hi ho h8 => ?_
  rw [seal_get (by omega) h8, gap_get hi ho]
end Go.Proofs.Ytihmfdmojnfdpaa
end
