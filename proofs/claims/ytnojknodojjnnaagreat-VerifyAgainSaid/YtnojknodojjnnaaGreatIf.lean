/-
  The law ImageGaps, walked.
  Plain facts: what lies between the segments says nothing.
  Plain facts: what is written is read again.
  Plain facts: what is written is read again: the header.
  Plain facts: what is read may be written, and is no longer then.
-/
import Derived.Test.YtnojknodojjnnaaGreatId
section
namespace Go.Proofs.YtnojknodojjnnaaGreat
open Go Go.Sim
set_option maxRecDepth 100000
set_option linter.unusedSimpArgs false
set_option linter.unusedVariables false

/-- The places that say something: the segments and the header. -/
def ownS (l : List UInt8) : List Span := spansP l ++ [⟨0, 64⟩]
def inS (i : Nat) (s : Span) : Bool := decide (s.place.toNat ≤ i ∧ i < s.place.toNat + s.len.toNat)
def gapB (l : List UInt8) (fill : UInt8) (i : Nat) : UInt8 := if (ownS l).any (inS i) then l.getD i 0 else fill + UInt8.ofNat i
def gapP (l : List UInt8) (fill : UInt8) (n : Nat) : List UInt8 := (List.range n).map (gapB l fill)
theorem gap_own {l : List UInt8} {fill : UInt8} {i : Nat} (h : i < l.length) (ho : (ownS l).any (inS i) = true) : cat eU8 ((gapP l fill i).take i) ++ [V.int .u8 (l[i].toNat : Int)] = cat eU8 (gapP l fill (i + 1)) := by
  have : gapB l fill i = l[i] := by unfold gapB; rw [if_pos ho, List.getD, List.getElem?_eq_getElem h]; rfl
  rw [List.take_of_length_le (by simp [gapP]), gapP, gapP, List.range_succ, List.map_append, cat_append, List.map_singleton, this]
  rfl
theorem gap_not {l : List UInt8} {fill : UInt8} {i : Nat} (h : i < l.length) (ho : (ownS l).any (inS i) = false) : cat eU8 ((gapP l fill i).take i) ++ [V.int .u8 (IntKind.u8.wrap ((fill.toNat : Int) + IntKind.u8.wrap (i : Int)))] = cat eU8 (gapP l fill (i + 1)) := by
  have : gapB l fill i = fill + UInt8.ofNat i := by unfold gapB; rw [if_neg (by rw [ho]; simp)]
  rw [List.take_of_length_le (by simp [gapP]), gapP, gapP, List.range_succ, List.map_append, cat_append, List.map_singleton, this]
  have e : ((fill + UInt8.ofNat i).toNat : Int) = IntKind.u8.wrap ((fill.toNat : Int) + IntKind.u8.wrap (i : Int)) := by
    rw [IntKind.wrap_u8, IntKind.wrap_u8, UInt8.toNat_add, UInt8.toNat_ofNat']
    omega
  rw [← e]
  rfl
theorem wordsOf_len : ∀ l : List UInt8, (wordsOf l).length ≤ l.length
  | [] => by simp [wordsOf]
  | [_] => by simp [wordsOf]
  | [_, _] => by simp [wordsOf]
  | [_, _, _] => by simp [wordsOf]
  | a :: b :: c :: d :: r => by
    have := wordsOf_len r
    simp [wordsOf]; omega
theorem expP_len (l : List UInt8) (a : Nat) (acc : List Export) (h : acc.length ≤ 64) : (expP l a acc).1.length ≤ 64 := by
  rw [expP]
  split
  · split
    · simp
    · split
      · exact expP_len l _ _ (by simp; omega)
      · simp
  · exact h
termination_by l.length - a
theorem parse_len (l : List UInt8) : (parseP l).1.code.length ≤ 16384 ∧ (parseP l).1.jumps.length ≤ l.length ∧ (parseP l).1.data.length ≤ l.length ∧ (parseP l).1.names.length ≤ 64 := by
  have q1 := segP_len l 1
  have q2 := segP_len l 2
  have w1 := wordsOf_len (segP l 1)
  have d0 := decI_len (segP l 0) 0 0 (by omega)
  have x3 := expP_len (segP l 3) 0 [] (by simp)
  unfold parseP
  repeat' split
  all_goals first | (simp [img0]; done) | exact ⟨by simpa using d0, by simp only; omega, by simp only; omega, x3⟩
abbrev gapL (l : List UInt8) (fill : UInt8) (p : Img × Nat × Nat) (c : V) (i : Nat) (own k : V) (r : List V) : List V :=
  bs l :: w8 fill.toNat :: xx :: xx :: bb false :: .pref 0 0 0 0 :: ii p.2.1 :: ii 0 :: .sref 0 1 0 5 5 (2, false) :: ii 0 :: c :: ii i :: own :: k :: xx :: xx :: xx :: xx :: xx :: bb true :: bb false ::
  parV p :: bs l :: parV p :: imgV p.1 :: ii p.2.1 :: ii 0 :: .tuple [.sref 0 1 0 4 4 (2, false), ii 0] :: bs l :: .tuple [.sref 0 1 0 4 4 (2, false), ii 0] :: .sref 0 1 0 4 4 (2, false) :: ii 0 :: ii 0 :: bb false :: ii 0 :: bb false ::
  .sref 0 1 0 4 4 (2, false) :: .agg [.int .u32 0, .int .u32 64] :: .sref 0 2 0 1 0 (2, true) :: .sref 0 1 0 5 5 (2, false) :: r
abbrev gapH (p : Img × Nat × Nat) (S : List Span) (c : List V) (e : Nat) : Heap := [[.row [lst eInstr p.1.code, ws p.1.jumps, bs p.1.data, w32 p.1.zero.toNat, w32 p.1.stack.toNat, lst eExport p.1.names] 0 6 true false,
  .row (cat eSpan S) 5 2 true true, .row [.int .u32 0, .int .u32 64] 0 2 true true, .row c e 1 true true]]
end Go.Proofs.YtnojknodojjnnaaGreat
end
section
namespace Go.Proofs.YtnojknodojjnnaaGreat
open Go Go.Sim

theorem word_congr {a b : List UInt8} {n : Nat} (ha : n + 4 ≤ a.length) (hb : n + 4 ≤ b.length) (h : ∀ j, j < 4 → a[n + j]? = b[n + j]?) : wordAt a n = wordAt b n := by
  obtain ⟨p, q, r, s, t, hd⟩ := drop4 ha
  obtain ⟨p', q', r', s', t', hd'⟩ := drop4 hb
  have e : ∀ j, j < 4 → (a.drop n)[j]? = (b.drop n)[j]? := fun j hj => by rw [List.getElem?_drop, List.getElem?_drop]; exact h j hj
  rw [hd, hd'] at e
  have e0 := e 0 (by omega); have e1 := e 1 (by omega); have e2 := e 2 (by omega); have e3 := e 3 (by omega)
  simp at e0 e1 e2 e3
  unfold wordAt
  rw [hd, hd', e0, e1, e2, e3]
theorem with4_with4 (l : List UInt8) (n : Nat) (x y : UInt32) (h : n + 4 ≤ l.length) : with4 (with4 l n x) n y = with4 l n y := by
  have h1 : (l.take n ++ bytes4 x ++ l.drop (n + 4)).take n = l.take n := by rw [List.append_assoc]; exact List.take_left' (by simp; omega)
  have h2 : (l.take n ++ bytes4 x ++ l.drop (n + 4)).drop (n + 4) = l.drop (n + 4) := List.drop_left' (by simp; omega)
  show (with4 l n x).take n ++ bytes4 y ++ (with4 l n x).drop (n + 4) = _
  unfold with4
  rw [h1, h2]
theorem with4_get {l : List UInt8} {n i : Nat} (x : UInt32) (h : n + 4 ≤ l.length) (hi : i < n ∨ n + 4 ≤ i) : (with4 l n x)[i]? = l[i]? := by
  unfold with4
  rcases hi with hi | hi
  · rw [List.append_assoc, List.getElem?_append_left (by simp; omega), List.getElem?_take_of_lt hi]
  · rw [List.getElem?_append_right (by simp; omega), List.getElem?_drop]
    congr 1
    simp; omega
theorem seal_get {l : List UInt8} {i : Nat} (h : 12 ≤ l.length) (hi : i < 8 ∨ 12 ≤ i) : (sealP l)[i]? = l[i]? := by
  unfold sealP
  rw [with4_get _ (by rw [with4_length _ (by omega)]; omega) hi, with4_get _ (by omega) hi]
theorem seal_seal {l : List UInt8} (h : 12 ≤ l.length) : wordAt (sealP (sealP l)) 8 = wordAt (sealP l) 8 := by
  rw [seal_word (by rw [sealP_length l h]; exact h), seal_word h]
  unfold sealP
  rw [with4_with4 _ _ _ _ (by rw [with4_length _ (by omega)]; omega), with4_with4 _ _ _ _ (by omega)]
theorem gap_get {l : List UInt8} {fill : UInt8} {i : Nat} (h : i < l.length) (ho : (ownS l).any (inS i) = true) : (gapP l fill l.length)[i]? = l[i]? := by
  unfold gapP
  rw [List.getElem?_map, List.getElem?_range h, Option.map_some, gapB, if_pos ho, List.getD, List.getElem?_eq_getElem h]
  rfl
theorem firstLap_none {s : Span} {l : List Span} {j : Nat} (h : firstLap s l j = none) : ∀ k, j ≤ k → (hk : k < l.length) → lap s l[k] = false := by
  intro k hjk hk
  rw [firstLap] at h
  rw [dif_pos (by omega)] at h
  split at h
  · cases h
  · rename_i hn
    by_cases hq : j = k
    · subst hq; simpa using hn
    · exact firstLap_none h k (by omega) hk
termination_by l.length - j
theorem lapFrom_none {l : List Span} {i : Nat} (h : lapFrom l i = none) : ∀ k, i ≤ k → (hk : k < l.length) → firstLap l[k] (l.take k) 0 = none := by
  intro k hik hk
  rw [lapFrom] at h
  rw [dif_pos (by omega)] at h
  split at h
  · cases h
  · rename_i hn
    by_cases hq : i = k
    · subst hq; exact hn
    · exact lapFrom_none h k (by omega) hk
termination_by l.length - i
/-- A header that is taken: its spans lie within the bytes, and those that hold something behind the header. -/
theorem head_spans {l : List UInt8} (h : (headP l).2 = 0) (i : Nat) (hi : i < 4) : (spanI l i).stop ≤ l.length ∧ ((spanI l i).len.toNat = 0 ∨ 64 ≤ (spanI l i).place.toNat) := by
  obtain ⟨hlo, hhi, g0, g1, g2, g3⟩ := headP_ok h
  have hnone : lapFrom (⟨0, 64⟩ :: spansP l) 0 = none := by
    unfold headP at h
    rw [if_neg (by omega), if_neg (by omega)] at h
    by_cases h3 : l.take 4 ≠ [80, 69, 78, 33]
    · simp [h3] at h
    rw [if_neg h3] at h
    by_cases h4 : wordAt l 4 ≠ 1
    · simp [h4] at h
    rw [if_neg h4] at h
    by_cases h5 : wordAt (sealP l) 8 ≠ wordAt l 8
    · simp [h5] at h
    rw [if_neg h5] at h
    by_cases h6 : wordAt l 56 ≠ 0
    · simp [h6] at h
    rw [if_neg h6] at h
    by_cases h7 : wordAt l 60 ≠ 0
    · simp [h7] at h
    rw [if_neg h7, if_neg (by omega), if_neg (by omega), if_neg (by omega), if_neg (by omega)] at h
    split at h
    · simp at h
    · assumption
  have hf := fun k hk => lapFrom_none hnone k (Nat.zero_le k) hk
  have hl : ∀ k (hk : k + 1 < (⟨0, 64⟩ :: spansP l).length), lap ((⟨0, 64⟩ :: spansP l)[k + 1]'hk) ⟨0, 64⟩ = false := by
    intro k hk
    have := firstLap_none (hf (k + 1) hk) 0 (Nat.zero_le 0) (by simp)
    simpa using this
  have key : ∀ s : Span, lap s ⟨0, 64⟩ = false → s.len.toNat = 0 ∨ 64 ≤ s.place.toNat := by
    intro s hs
    have e1 : (0 : UInt32).toNat = 0 := rfl
    have e2 : (64 : UInt32).toNat = 64 := rfl
    unfold lap at hs
    simp only [e1, e2, decide_eq_false_iff_not] at hs
    omega
  have hi4 : i = 0 ∨ i = 1 ∨ i = 2 ∨ i = 3 := by omega
  rcases hi4 with rfl | rfl | rfl | rfl
  · exact ⟨g0, key _ (hl 0 (by simp [spansP]))⟩
  · exact ⟨g1, key _ (hl 1 (by simp [spansP]))⟩
  · exact ⟨g2, key _ (hl 2 (by simp [spansP]))⟩
  · exact ⟨g3, key _ (hl 3 (by simp [spansP]))⟩
theorem own_head {l : List UInt8} {i : Nat} (h : i < 64) : (ownS l).any (inS i) = true := by
  unfold ownS
  rw [List.any_append]
  have : inS i ⟨0, 64⟩ = true := by
    have e1 : (0 : UInt32).toNat = 0 := rfl
    have e2 : (64 : UInt32).toNat = 64 := rfl
    unfold inS; simp only [e1, e2, decide_eq_true_eq]; omega
  simp [this]
theorem own_seg {l : List UInt8} {i k : Nat} (hk : k < 4) (h : (spanI l k).place.toNat ≤ i ∧ i < (spanI l k).place.toNat + (spanI l k).len.toNat) : (ownS l).any (inS i) = true := by
  unfold ownS
  rw [List.any_append]
  have : inS i (spanI l k) = true := by unfold inS; simpa using h
  have hk4 : k = 0 ∨ k = 1 ∨ k = 2 ∨ k = 3 := by omega
  rcases hk4 with rfl | rfl | rfl | rfl <;> simp [spansP, this]
/-- What two files have in common that are read alike. -/
theorem parse_alike {l d : List UInt8} (h : (headP l).2 = 0) (hlen : d.length = l.length) (hsum : wordAt (sealP d) 8 = wordAt d 8) (hget : ∀ i, i < l.length → (ownS l).any (inS i) = true → (i < 8 ∨ 12 ≤ i) → d[i]? = l[i]?) : parseP d = parseP l := by
  obtain ⟨hlo, hhi, g0, g1, g2, g3⟩ := headP_ok h
  have hhead : ∀ i, i < 64 → (i < 8 ∨ 12 ≤ i) → d[i]? = l[i]? := fun i hi h => hget i (by omega) (own_head hi) h
  have hw : ∀ n, n + 4 ≤ 64 → (n + 4 ≤ 8 ∨ 12 ≤ n) → wordAt d n = wordAt l n := by
    intro n hn h8
    exact word_congr (by omega) (by omega) fun j hj => hhead _ (by omega) (by omega)
  have hsp : ∀ i, i < 4 → spanI d i = spanI l i := by
    intro i hi
    unfold spanI
    rw [hw _ (by omega) (by omega), hw _ (by omega) (by omega)]
  have ht : d.take 4 = l.take 4 := by
    apply List.ext_getElem?
    intro i
    by_cases hi : i < 4
    · rw [List.getElem?_take_of_lt hi, List.getElem?_take_of_lt hi]; exact hhead i (by omega) (by omega)
    · rw [List.getElem?_eq_none (by simp; omega), List.getElem?_eq_none (by simp; omega)]
  have hsps : spansP d = spansP l := by unfold spansP; rw [hsp 0 (by omega), hsp 1 (by omega), hsp 2 (by omega), hsp 3 (by omega)]
  have hh : headP d = headP l := by
    have hs2 := (head_sum h).2
    unfold headP
    rw [hlen, ht, hw 4 (by omega) (by omega), hw 56 (by omega) (by omega), hw 60 (by omega) (by omega), hsp 0 (by omega), hsp 1 (by omega), hsp 2 (by omega), hsp 3 (by omega), hsps]
    simp only [hsum, hs2, ne_eq, not_true_eq_false, if_false]
  have hseg : ∀ i, i < 4 → segP d i = segP l i := by
    intro i hi
    unfold segP
    rw [hsp i hi]
    obtain ⟨hst, h0⟩ := head_spans h i hi
    unfold Span.stop at hst
    apply List.ext_getElem?
    intro j
    by_cases hj : j < (spanI l i).len.toNat
    · rw [List.getElem?_take_of_lt hj, List.getElem?_take_of_lt hj, List.getElem?_drop, List.getElem?_drop]
      exact hget _ (by omega) (own_seg hi ⟨by omega, by omega⟩) (by omega)
    · rw [List.getElem?_eq_none (by simp; omega), List.getElem?_eq_none (by simp; omega)]
  unfold parseP
  rw [hh, hseg 0 (by omega), hseg 1 (by omega), hseg 2 (by omega), hseg 3 (by omega), hsp 0 (by omega), hsp 3 (by omega), hw 12 (by omega) (by omega), hw 48 (by omega) (by omega), hw 52 (by omega) (by omega)]
theorem gaps {l : List UInt8} (fill : UInt8) (h : (parseP l).2.2 = 0) : parseP (sealP (gapP l fill l.length)) = parseP l := by
  have hh := parse_head h
  obtain ⟨hlo, hhi, _⟩ := headP_ok hh
  have hgl : (gapP l fill l.length).length = l.length := by simp [gapP]
  refine parse_alike hh (by rw [sealP_length _ (by omega), hgl]) (seal_seal (by omega)) fun i hi ho h8 => ?_
  rw [seal_get (by omega) h8, gap_get hi ho]
end Go.Proofs.YtnojknodojjnnaaGreat
end
section
namespace Go.Proofs.YtnojknodojjnnaaGreat
open Go Go.Sim
set_option linter.unusedSimpArgs false
set_option linter.unusedVariables false

theorem wordsOf_words : ∀ l : List UInt32, wordsOf (words l) = l
  | [] => rfl
  | x :: r => by
    show word4 _ _ _ _ :: wordsOf (words r) = _
    rw [word4_bytes, wordsOf_words r]
theorem bytes4_word4 (a b c d : UInt8) : bytes4 (word4 a b c d) = [a, b, c, d] := by
  have := a.toNat_lt; have := b.toNat_lt; have := c.toNat_lt; have := d.toNat_lt
  have h := word4_toNat a b c d
  unfold bytes4
  rw [h]
  have e : ∀ (n : Nat) (x : UInt8), n = x.toNat → UInt8.ofNat n = x := fun n x h => by rw [h]; simp
  congr 1
  · exact e _ _ (by omega)
  congr 1
  · exact e _ _ (by omega)
  congr 1
  · exact e _ _ (by omega)
  congr 1
  exact e _ _ (by omega)
theorem words_wordsOf : ∀ l : List UInt8, l.length % 4 = 0 → words (wordsOf l) = l
  | [], _ => rfl
  | [_], h => by simp at h
  | [_, _], h => by simp at h
  | [_, _, _], h => by simp at h
  | a :: b :: c :: d :: r, h => by
    have h' : r.length % 4 = 0 := by simp at h; omega
    show bytes4 (word4 a b c d) ++ words (wordsOf r) = _
    rw [bytes4_word4, words_wordsOf r h']
    rfl
/-- A word that stands behind so many bytes. -/
theorem word_at {p s : List UInt8} {x : UInt32} {n : Nat} (h : p.length = n) : wordAt (p ++ bytes4 x ++ s) n = x := by
  subst h
  unfold wordAt
  rw [List.append_assoc, List.drop_left]
  exact word4_bytes x
/-! ### Instructions -/
theorem readI_enc {p s : List UInt8} {i : Instr} (h : insBad i = 0) : readI (p ++ encOne i ++ s) p.length = .ok (i, (encOne i).length) := by
  obtain ⟨hw, hm, hpw⟩ := rowOf_some i.op
  unfold insBad at h
  have hop : isOp i.op.toNat = true := by
    by_cases hq : isOp i.op.toNat = true
    · exact hq
    · rw [if_neg hq] at h; cases h
  rw [if_pos hop] at h
  have hmost : i.arg.toNat ≤ (rowOf i.op.toNat).most := by
    by_cases hq : (rowOf i.op.toNat).most < i.arg.toNat
    · rw [if_pos hq] at h; cases h
    · omega
  have g0 : (p ++ encOne i ++ s).getD p.length 0 = i.op := by
    rw [List.append_assoc, List.getD, List.getElem?_append_right (Nat.le_refl _), Nat.sub_self]; rfl
  have gk : ∀ k, k < (rowOf i.op.toNat).width → (p ++ encOne i ++ s).getD (p.length + (k + 1)) 0 = (bytes4 i.arg).getD k 0 := by
    intro k hk
    rw [List.append_assoc, List.getD, List.getElem?_append_right (by omega), show p.length + (k + 1) - p.length = k + 1 by omega]
    unfold encOne
    rw [List.cons_append, List.getElem?_cons_succ, List.getElem?_append_left (by simp; omega), List.getElem?_take_of_lt hk]
    rfl
  have hlen := encOne_len i
  have hal := i.arg.toNat_lt
  unfold readI
  rw [g0]
  simp only [hop, if_true]
  rw [if_neg (by simp [hlen]; omega)]
  have harg : argUp (p ++ encOne i ++ s) p.length (rowOf i.op.toNat).width 0 = i.arg.toNat := by
    have b0 : ((bytes4 i.arg).getD 0 0).toNat = i.arg.toNat % 256 := by simp [bytes4, List.getD]
    have b1 : ((bytes4 i.arg).getD 1 0).toNat = i.arg.toNat / 256 % 256 := by simp [bytes4, List.getD]
    have b2 : ((bytes4 i.arg).getD 2 0).toNat = i.arg.toNat / 65536 % 256 := by simp [bytes4, List.getD]
    have b3 : ((bytes4 i.arg).getD 3 0).toNat = i.arg.toNat / 16777216 % 256 := by simp [bytes4, List.getD]
    generalize (rowOf i.op.toNat).width = w at gk hw hpw
    have hw5 : w = 0 ∨ w = 1 ∨ w = 2 ∨ w = 3 ∨ w = 4 := by omega
    rcases hw5 with rfl | rfl | rfl | rfl | rfl
    · simp only [argUp]; simp at hpw; omega
    · have e0 := gk 0 (by omega)
      simp only [argUp, e0, b0]; simp at hpw; omega
    · have e0 := gk 0 (by omega); have e1 := gk 1 (by omega)
      simp only [argUp, e0, e1, b0, b1]; simp at hpw; omega
    · have e0 := gk 0 (by omega); have e1 := gk 1 (by omega); have e2 := gk 2 (by omega)
      simp only [argUp, e0, e1, e2, b0, b1, b2]; simp at hpw; omega
    · have e0 := gk 0 (by omega); have e1 := gk 1 (by omega); have e2 := gk 2 (by omega); have e3 := gk 3 (by omega)
      simp only [argUp, e0, e1, e2, e3, b0, b1, b2, b3]; omega
  rw [harg, if_neg (by omega), hlen, UInt32.ofNat_toNat]
theorem decI_enc : ∀ (l : List Instr) (p : List UInt8) (n : Nat), n + l.length ≤ 16384 → (∀ i ∈ l, insBad i = 0) → decI (p ++ encI l) p.length n = (l, 0, 0)
  | [], p, n, _, _ => by
    rw [decI, if_neg (by simp [encI])]
  | i :: l, p, n, hn, hb => by
    have e : encI (i :: l) = encOne i ++ encI l := by simp [encI]
    have hlen := encOne_len i
    simp only [List.length_cons] at hn
    rw [decI, e, if_pos (by simp; omega), if_pos (by omega), ← List.append_assoc, readI_enc (hb i (by simp))]
    have := decI_enc l (p ++ encOne i) (n + 1) (by omega) fun j hj => hb j (by simp [hj])
    rw [List.length_append] at this
    simp only [this]
/-! ### Names -/
theorem nameOk_prefix {a b : List Export} {j : Nat} (hj : j < a.length) : nameOk (a ++ b) j = nameOk a j := by
  unfold nameOk
  rw [List.getElem?_append_left hj, List.getElem?_append_left (show j - 1 < a.length by omega)]
theorem expP_enc : ∀ (l : List Export) (p : List UInt8) (acc : List Export), acc.length + l.length ≤ 64 → (∀ j, acc.length ≤ j → j < acc.length + l.length → nameOk (acc ++ l) j = true) → expP (p ++ namesB l) p.length acc = (acc ++ l, 0, 0)
  | [], p, acc, _, _ => by
    rw [expP, if_neg (by simp [namesB])]; simp
  | x :: l, p, acc, hn, hok => by
    have e : namesB (x :: l) = nameB x ++ namesB l := by simp [namesB]
    simp only [List.length_cons] at hn hok
    have h0 := hok acc.length (Nat.le_refl _) (by omega)
    have hx := name_len (l := acc ++ x :: l) (j := acc.length) (by simp) h0
    have hxe : (acc ++ x :: l)[acc.length]'(by simp) = x := by simp
    rw [hxe] at hx
    have hnb : (nameB x).length = 5 + x.name.length := by simp [nameB]; omega
    have hq : p ++ namesB (x :: l) = p ++ (bytes4 x.place ++ ([UInt8.ofNat x.name.length] ++ (x.name ++ namesB l))) := by rw [e]; simp [nameB]
    have hlen8 : (UInt8.ofNat x.name.length).toNat = x.name.length := by rw [UInt8.toNat_ofNat']; omega
    have g4 : (p ++ namesB (x :: l)).getD (p.length + 4) 0 = UInt8.ofNat x.name.length := by
      rw [hq, List.getD, List.getElem?_append_right (by omega), show p.length + 4 - p.length = 4 by omega, List.getElem?_append_right (by simp)]
      simp
    have gw : wordAt (p ++ namesB (x :: l)) p.length = x.place := by
      rw [hq, ← List.append_assoc]
      exact word_at rfl
    have gn : ((p ++ namesB (x :: l)).drop (p.length + 5)).take x.name.length = x.name := by
      have : p ++ namesB (x :: l) = (p ++ bytes4 x.place ++ [UInt8.ofNat x.name.length]) ++ (x.name ++ namesB l) := by rw [hq]; simp
      rw [this, List.drop_left' (by simp), List.take_left' rfl]
    have hlenT : (p ++ namesB (x :: l)).length = p.length + 5 + x.name.length + (namesB l).length := by rw [e]; simp [hnb]; omega
    rw [expP, if_pos (by omega), g4, hlen8, if_neg (by omega), gw, gn]
    have hxx : (⟨x.name, x.place⟩ : Export) = x := rfl
    rw [hxx, show nameOk (acc ++ [x]) acc.length = true from by
      have := nameOk_prefix (a := acc ++ [x]) (b := l) (j := acc.length) (by simp)
      rw [← this]; simpa using h0]
    simp only [if_true]
    have ih := expP_enc l (p ++ nameB x) (acc ++ [x]) (by simp; omega) (fun j h1 h2 => by
      simp at h1 h2
      have := hok j (by omega) (by omega)
      simpa using this)
    rw [e, ← List.append_assoc, show p.length + 5 + x.name.length = (p ++ nameB x).length by simp [hnb]; omega, ih]
    simp
end Go.Proofs.YtnojknodojjnnaaGreat
end
section
namespace Go.Proofs.YtnojknodojjnnaaGreat
open Go Go.Sim
set_option linter.unusedSimpArgs false
set_option linter.unusedVariables false

theorem word_words {m s : List UInt8} {W : List UInt32} {k n : Nat} (hk : k < W.length) (hn : n = m.length + 4 * k) : wordAt (m ++ words W ++ s) n = W[k] := by
  have e : W = W.take k ++ (W[k] :: W.drop (k + 1)) := by rw [← List.drop_eq_getElem_cons hk, List.take_append_drop]
  have : m ++ words W ++ s = (m ++ words (W.take k)) ++ bytes4 W[k] ++ (words (W.drop (k + 1)) ++ s) := by
    conv => lhs; rw [e]
    rw [words_append]
    show m ++ (words (W.take k) ++ (bytes4 W[k] ++ words (W.drop (k + 1)))) ++ s = _
    simp
  rw [this]
  exact word_at (by simp [words_length]; omega)
theorem firstLap_eq {s : Span} {l : List Span} {j : Nat} (h : ∀ k (hk : k < l.length), lap s l[k] = false) : firstLap s l j = none := by
  rw [firstLap]
  split
  · rename_i hj
    rw [h j hj]
    simp only [Bool.false_eq_true, if_false]
    exact firstLap_eq h
  · rfl
termination_by l.length - j
theorem lapFrom_eq {l : List Span} {i : Nat} (h : ∀ k (hk : k < l.length) j (hj : j < k), lap l[k] (l[j]'(by omega)) = false) : lapFrom l i = none := by
  rw [lapFrom]
  split
  · rename_i hi
    rw [firstLap_eq (s := l[i]) (l := l.take i) (j := 0) fun k hk => by
      simp at hk
      rw [List.getElem_take]
      exact h i hi k (by omega)]
    exact lapFrom_eq h
  · rfl
termination_by l.length - i

noncomputable def headW (x : Img) : List UInt32 := [1, 0, UInt32.ofNat x.code.length, 64, UInt32.ofNat (encI x.code).length, UInt32.ofNat (64 + (encI x.code).length), UInt32.ofNat (words x.jumps).length,
  UInt32.ofNat (64 + (encI x.code).length + (words x.jumps).length), UInt32.ofNat x.data.length, UInt32.ofNat (64 + (encI x.code).length + (words x.jumps).length + x.data.length), UInt32.ofNat (namesB x.names).length, x.zero, x.stack, 0, 0]
theorem encF_eq (x : Img) : encF x = [80, 69, 78, 33] ++ words (headW x) ++ (encI x.code ++ words x.jumps ++ x.data ++ namesB x.names) := by
  have e : ∀ a b : List UInt32, words a ++ words b = words (a ++ b) := fun a b => (words_append a b).symm
  unfold encF headW
  simp [words]
structure Sizes (x : Img) : Prop where
  a : (encI x.code).length ≤ 81920
  b : (words x.jumps).length ≤ 65536
  c : x.data.length ≤ 65536
  d : (namesB x.names).length ≤ 2368
  code : x.code.length ≤ 16384
theorem sizes {x : Img} (hc : checkP x = 0) : Sizes x := by
  obtain ⟨c1, c2, c3, c4, c5, c6, c7⟩ := check_ok hc
  have a0 := encI_len x.code
  have a1 := words_length x.jumps
  have hn32 : ∀ n ∈ x.names, n.name.length ≤ 32 := fun n hn => by
    obtain ⟨j, hj, rfl⟩ := List.mem_iff_getElem.1 hn
    exact (name_len hj (names_good c7 j (Nat.zero_le j) hj)).2
  have := namesB_len hn32
  exact ⟨by omega, by omega, by omega, by omega, c1⟩
theorem encF_len (x : Img) : (encF x).length = 64 + (encI x.code).length + (words x.jumps).length + x.data.length + (namesB x.names).length := by
  rw [encF_eq]; simp [words_length, headW]; omega
theorem enc_word {x : Img} {k n : Nat} (hk : k < 15) (h2 : k = 0 ∨ 2 ≤ k) (hn : n = 4 + 4 * k) : wordAt (encP x) n = (headW x)[k]'(by simp [headW]; omega) := by
  have hl := encF_len x
  unfold encP
  rw [word_congr (b := encF x) (by rw [sealP_length _ (by omega)]; omega) (by omega) fun j hj => seal_get (by omega) (by omega), encF_eq]
  exact word_words (by simp [headW]; omega) (by simpa using hn)
theorem u32 {n : Nat} (h : n < 4294967296) : (UInt32.ofNat n).toNat = n := by rw [UInt32.toNat_ofNat', Nat.mod_eq_of_lt h]
theorem enc_drop {x : Img} {n : Nat} {q r : List UInt8} (h : 64 ≤ n) (hq : encF x = q ++ r) (hn : q.length = n) : (encP x).drop n = r := by
  have hl := encF_len x
  apply List.ext_getElem?
  intro i
  rw [List.getElem?_drop]
  unfold encP
  rw [seal_get (by omega) (by omega), hq, List.getElem?_append_right (by omega)]
  congr 1
  omega
theorem encF_cut (x : Img) : encF x = ([80, 69, 78, 33] ++ words (headW x)) ++ (encI x.code ++ (words x.jumps ++ (x.data ++ namesB x.names))) := by rw [encF_eq]; simp
theorem head_len (x : Img) : ([80, 69, 78, 33] ++ words (headW x)).length = 64 := by simp [words_length, headW]
theorem enc_span (x : Img) (s : Sizes x) : spanI (encP x) 0 = ⟨64, UInt32.ofNat (encI x.code).length⟩ ∧ spanI (encP x) 1 = ⟨UInt32.ofNat (64 + (encI x.code).length), UInt32.ofNat (words x.jumps).length⟩ ∧
    spanI (encP x) 2 = ⟨UInt32.ofNat (64 + (encI x.code).length + (words x.jumps).length), UInt32.ofNat x.data.length⟩ ∧ spanI (encP x) 3 = ⟨UInt32.ofNat (64 + (encI x.code).length + (words x.jumps).length + x.data.length), UInt32.ofNat (namesB x.names).length⟩ := by
  unfold spanI
  refine ⟨?_, ?_, ?_, ?_⟩
  · rw [enc_word (k := 3) (by omega) (by omega) (by omega), enc_word (k := 4) (by omega) (by omega) (by omega)]; rfl
  · rw [enc_word (k := 5) (by omega) (by omega) (by omega), enc_word (k := 6) (by omega) (by omega) (by omega)]; rfl
  · rw [enc_word (k := 7) (by omega) (by omega) (by omega), enc_word (k := 8) (by omega) (by omega) (by omega)]; rfl
  · rw [enc_word (k := 9) (by omega) (by omega) (by omega), enc_word (k := 10) (by omega) (by omega) (by omega)]; rfl
theorem enc_seg (x : Img) (s : Sizes x) : segP (encP x) 0 = encI x.code ∧ segP (encP x) 1 = words x.jumps ∧ segP (encP x) 2 = x.data ∧ segP (encP x) 3 = namesB x.names := by
  obtain ⟨sa, sb, sc, sd, _⟩ := s
  obtain ⟨h0, h1, h2, h3⟩ := enc_span x ⟨sa, sb, sc, sd, by assumption⟩
  have hh := head_len x
  have h64 : (64 : UInt32).toNat = 64 := rfl
  unfold segP
  rw [h0, h1, h2, h3]
  simp only [h64, u32 (show (encI x.code).length < 4294967296 by omega), u32 (show 64 + (encI x.code).length < 4294967296 by omega), u32 (show (words x.jumps).length < 4294967296 by omega), u32 (show 64 + (encI x.code).length + (words x.jumps).length < 4294967296 by omega),
    u32 (show x.data.length < 4294967296 by omega), u32 (show 64 + (encI x.code).length + (words x.jumps).length + x.data.length < 4294967296 by omega), u32 (show (namesB x.names).length < 4294967296 by omega)]
  refine ⟨?_, ?_, ?_, ?_⟩
  · rw [enc_drop (by omega) (encF_cut x) hh]
    exact List.take_left' rfl
  · rw [enc_drop (q := ([80, 69, 78, 33] ++ words (headW x)) ++ encI x.code) (r := words x.jumps ++ (x.data ++ namesB x.names)) (by omega) (by rw [encF_cut]; simp) (by rw [List.length_append, hh])]
    exact List.take_left' rfl
  · rw [enc_drop (q := ([80, 69, 78, 33] ++ words (headW x)) ++ encI x.code ++ words x.jumps) (r := x.data ++ namesB x.names) (by omega) (by rw [encF_cut]; simp) (by rw [List.length_append, List.length_append, hh])]
    exact List.take_left' rfl
  · rw [enc_drop (q := ([80, 69, 78, 33] ++ words (headW x)) ++ encI x.code ++ words x.jumps ++ x.data) (r := namesB x.names) (by omega) (by rw [encF_cut]; simp) (by rw [List.length_append, List.length_append, List.length_append, hh])]
    exact List.take_of_length_le (Nat.le_refl _)
theorem enc_head (x : Img) (s : Sizes x) : headP (encP x) = (0, 0) := by
  obtain ⟨h0, h1, h2, h3⟩ := enc_span x s
  obtain ⟨sa, sb, sc, sd, _⟩ := s
  have hl := encF_len x
  have hlen : (encP x).length = (encF x).length := sealP_length _ (by omega)
  have h64 : (64 : UInt32).toNat = 64 := rfl
  have ht : (encP x).take 4 = [80, 69, 78, 33] := by
    apply List.ext_getElem?
    intro i
    by_cases hi : i < 4
    · rw [List.getElem?_take_of_lt hi]
      unfold encP
      rw [seal_get (by omega) (by omega), encF_cut, List.append_assoc, List.getElem?_append_left (by simpa using hi)]
    · rw [List.getElem?_eq_none (by simp; omega), List.getElem?_eq_none (by simp; omega)]
  have w4 : wordAt (encP x) 4 = 1 := by rw [enc_word (k := 0) (by omega) (by omega) (by omega)]; rfl
  have w56 : wordAt (encP x) 56 = 0 := by rw [enc_word (k := 13) (by omega) (by omega) (by omega)]; rfl
  have w60 : wordAt (encP x) 60 = 0 := by rw [enc_word (k := 14) (by omega) (by omega) (by omega)]; rfl
  have ws : wordAt (sealP (encP x)) 8 = wordAt (encP x) 8 := seal_seal (by omega)
  have u := fun n (h : n < 4294967296) => u32 h
  have hlap : lapFrom (⟨0, 64⟩ :: spansP (encP x)) 0 = none := by
    unfold spansP
    rw [h0, h1, h2, h3]
    apply lapFrom_eq
    intro k hk j hj
    simp only [List.length_cons, List.length_nil] at hk
    have e0 : (0 : UInt32).toNat = 0 := rfl
    have ua := u (encI x.code).length (by omega)
    have ub := u (words x.jumps).length (by omega)
    have uc := u x.data.length (by omega)
    have ud := u (namesB x.names).length (by omega)
    have p1 := u (64 + (encI x.code).length) (by omega)
    have p2 := u (64 + (encI x.code).length + (words x.jumps).length) (by omega)
    have p3 := u (64 + (encI x.code).length + (words x.jumps).length + x.data.length) (by omega)
    have hk5 : k = 1 ∨ k = 2 ∨ k = 3 ∨ k = 4 := by omega
    rcases hk5 with rfl | rfl | rfl | rfl
    · obtain rfl : j = 0 := by omega
      unfold lap; simp only [List.getElem_cons_succ, List.getElem_cons_zero, e0, h64, ua, decide_eq_false_iff_not]; omega
    · have hj2 : j = 0 ∨ j = 1 := by omega
      rcases hj2 with rfl | rfl <;> unfold lap <;> simp only [List.getElem_cons_succ, List.getElem_cons_zero, e0, h64, ua, ub, p1, decide_eq_false_iff_not] <;> omega
    · have hj2 : j = 0 ∨ j = 1 ∨ j = 2 := by omega
      rcases hj2 with rfl | rfl | rfl <;> unfold lap <;> simp only [List.getElem_cons_succ, List.getElem_cons_zero, e0, h64, ua, ub, uc, p1, p2, decide_eq_false_iff_not] <;> omega
    · have hj2 : j = 0 ∨ j = 1 ∨ j = 2 ∨ j = 3 := by omega
      rcases hj2 with rfl | rfl | rfl | rfl <;> unfold lap <;> simp only [List.getElem_cons_succ, List.getElem_cons_zero, e0, h64, ua, ub, uc, ud, p1, p2, p3, decide_eq_false_iff_not] <;> omega
  have s0 : (spanI (encP x) 0).stop = 64 + (encI x.code).length := by rw [h0]; unfold Span.stop; simp only [h64, u _ (show (encI x.code).length < 4294967296 by omega)]
  have s1 : (spanI (encP x) 1).stop = 64 + (encI x.code).length + (words x.jumps).length := by rw [h1]; unfold Span.stop; simp only [u _ (show (words x.jumps).length < 4294967296 by omega), u _ (show 64 + (encI x.code).length < 4294967296 by omega)]
  have s2 : (spanI (encP x) 2).stop = 64 + (encI x.code).length + (words x.jumps).length + x.data.length := by rw [h2]; unfold Span.stop; simp only [u _ (show x.data.length < 4294967296 by omega), u _ (show 64 + (encI x.code).length + (words x.jumps).length < 4294967296 by omega)]
  have s3 : (spanI (encP x) 3).stop = 64 + (encI x.code).length + (words x.jumps).length + x.data.length + (namesB x.names).length := by rw [h3]; unfold Span.stop; simp only [u _ (show (namesB x.names).length < 4294967296 by omega), u _ (show 64 + (encI x.code).length + (words x.jumps).length + x.data.length < 4294967296 by omega)]
  unfold headP
  rw [if_neg (by omega), if_neg (by omega), if_neg (by simp [ht]), if_neg (by simp [w4]), if_neg (by simp [ws]), if_neg (by simp [w56]), if_neg (by simp [w60]), if_neg (by omega), if_neg (by omega), if_neg (by omega), if_neg (by omega), hlap]
/-- What is written is read again. -/
theorem parse_enc {x : Img} (hc : checkP x = 0) : parseP (encP x) = (x, 0, 0) := by
  have s := sizes hc
  obtain ⟨c1, c2, c3, c4, c5, c6, c7⟩ := check_ok hc
  obtain ⟨g0, g1, g2, g3⟩ := enc_seg x s
  have hh := enc_head x s
  have d0 : decI (encI x.code) 0 0 = (x.code, 0, 0) := by simpa using decI_enc x.code [] 0 (by omega) (code_all hc)
  have e0 : expP (namesB x.names) 0 [] = (x.names, 0, 0) := by
    have := expP_enc x.names [] [] (by simpa using c6) (fun j h1 h2 => by simpa using names_good c7 j (Nat.zero_le j) (by simpa using h2))
    simpa using this
  have w12 : wordAt (encP x) 12 = UInt32.ofNat x.code.length := by rw [enc_word (k := 2) (by omega) (by omega) (by omega)]; rfl
  have w48 : wordAt (encP x) 48 = x.zero := by rw [enc_word (k := 11) (by omega) (by omega) (by omega)]; rfl
  have w52 : wordAt (encP x) 52 = x.stack := by rw [enc_word (k := 12) (by omega) (by omega) (by omega)]; rfl
  have hw := words_length x.jumps
  unfold parseP
  rw [g0, g1, g2, g3, d0, e0, hh, w12, w48, w52, wordsOf_words, u32 (by omega)]
  rw [if_neg (by simp), if_neg (by simp), if_neg (by simp), if_neg (by omega), if_neg (by simp [c4]), if_neg (by omega), if_neg (by simp)]
end Go.Proofs.YtnojknodojjnnaaGreat
end
section
namespace Go.Proofs.YtnojknodojjnnaaGreat
open Go Go.Sim
set_option linter.unusedSimpArgs false
set_option linter.unusedVariables false

theorem bytes_arg (b : List UInt8) (w n : Nat) (hb : b.length = w) (hw : w ≤ 4) (hn : n < 4294967296) (h : ∀ k, k < w → (b.getD k 0).toNat = n / 256 ^ k % 256) : (bytes4 (UInt32.ofNat n)).take w = b := by
  have e : ∀ (m : Nat) (x : UInt8), x.toNat = m % 256 → UInt8.ofNat (m % 256) = x := fun m x h => by rw [← h]; simp
  unfold bytes4
  rw [u32 hn]
  have hw5 : w = 0 ∨ w = 1 ∨ w = 2 ∨ w = 3 ∨ w = 4 := by omega
  rcases hw5 with rfl | rfl | rfl | rfl | rfl
  · rw [List.length_eq_zero_iff.1 hb]; rfl
  · match b, hb with
    | [p], _ =>
      have h0 := h 0 (by omega)
      simp [List.getD] at h0
      simp [e n p h0]
  · match b, hb with
    | [p, q], _ =>
      have h0 := h 0 (by omega); have h1 := h 1 (by omega)
      simp [List.getD] at h0 h1
      simp [e n p h0, e _ q h1]
  · match b, hb with
    | [p, q, r], _ =>
      have h0 := h 0 (by omega); have h1 := h 1 (by omega); have h2 := h 2 (by omega)
      simp [List.getD] at h0 h1 h2
      simp [e n p h0, e _ q h1, e _ r h2]
  · match b, hb with
    | [p, q, r, s], _ =>
      have h0 := h 0 (by omega); have h1 := h 1 (by omega); have h2 := h 2 (by omega); have h3 := h 3 (by omega)
      simp [List.getD] at h0 h1 h2 h3
      simp [e n p h0, e _ q h1, e _ r h2, e _ s h3]
theorem readI_dec {l : List UInt8} {a k : Nat} {i : Instr} (ha : a < l.length) (h : readI l a = .ok (i, k)) : insBad i = 0 ∧ a + k ≤ l.length ∧ encOne i = (l.drop a).take k := by
  unfold readI at h
  dsimp only at h
  by_cases hop : isOp (l.getD a 0).toNat = true
  · rw [if_pos hop] at h
    obtain ⟨hw, hm, hpw⟩ := rowOf_some (l.getD a 0)
    by_cases hc : l.length < a + 1 + (rowOf (l.getD a 0).toNat).width
    · rw [if_pos hc] at h; cases h
    rw [if_neg hc] at h
    by_cases hmo : (rowOf (l.getD a 0).toNat).most < argUp l a (rowOf (l.getD a 0).toNat).width 0
    · rw [if_pos hmo] at h; cases h
    rw [if_neg hmo] at h
    simp only [Except.ok.injEq, Prod.mk.injEq] at h
    obtain ⟨rfl, rfl⟩ := h
    have harg := argUp_lt l a (rowOf (l.getD a 0).toNat).width 0 0 (by simp)
    rw [Nat.zero_add] at harg
    have h32 : argUp l a (rowOf (l.getD a 0).toNat).width 0 < 4294967296 := by omega
    refine ⟨?_, by omega, ?_⟩
    · unfold insBad
      simp only [hop, if_true]
      rw [u32 h32, if_neg hmo]
    · have hd : l.drop a = l.getD a 0 :: l.drop (a + 1) := by
        rw [List.drop_eq_getElem_cons ha, List.getD, List.getElem?_eq_getElem ha]; rfl
      rw [hd, Nat.add_comm 1, List.take_succ_cons]
      unfold encOne
      congr 1
      show (bytes4 (UInt32.ofNat (argUp l a (rowOf (l.getD a 0).toNat).width 0))).take (rowOf (l.getD a 0).toNat).width = (l.drop (a + 1)).take (rowOf (l.getD a 0).toNat).width
      refine bytes_arg _ (rowOf (l.getD a 0).toNat).width _ (by rw [List.length_take, List.length_drop]; omega) hw h32 ?_
      intro k hk
      have hg : ((l.drop (a + 1)).take (rowOf (l.getD a 0).toNat).width).getD k 0 = l.getD (a + (k + 1)) 0 := by
        rw [List.getD, List.getElem?_take_of_lt hk, List.getElem?_drop, List.getD, show a + 1 + k = a + (k + 1) by omega]
      rw [hg]
      clear hg hmo hc hd h32 harg hm hpw hop
      have hw5 : (rowOf (l.getD a 0).toNat).width = 0 ∨ (rowOf (l.getD a 0).toNat).width = 1 ∨ (rowOf (l.getD a 0).toNat).width = 2 ∨ (rowOf (l.getD a 0).toNat).width = 3 ∨ (rowOf (l.getD a 0).toNat).width = 4 := by omega
      have b1 := (l.getD (a + (0 + 1)) 0).toNat_lt; have b2 := (l.getD (a + (1 + 1)) 0).toNat_lt; have b3 := (l.getD (a + (2 + 1)) 0).toNat_lt; have b4 := (l.getD (a + (3 + 1)) 0).toNat_lt
      rcases hw5 with hq | hq | hq | hq | hq <;> rw [hq] at hk ⊢ <;> simp only [argUp]
      · omega
      · obtain rfl : k = 0 := by omega
        simp only [Nat.pow_zero]; omega
      · have : k = 0 ∨ k = 1 := by omega
        rcases this with rfl | rfl <;> simp only [Nat.reducePow] <;> omega
      · have : k = 0 ∨ k = 1 ∨ k = 2 := by omega
        rcases this with rfl | rfl | rfl <;> simp only [Nat.reducePow] <;> omega
      · have : k = 0 ∨ k = 1 ∨ k = 2 ∨ k = 3 := by omega
        rcases this with rfl | rfl | rfl | rfl <;> simp only [Nat.reducePow] <;> omega
  · rw [if_neg hop] at h; cases h
theorem decI_dec (l : List UInt8) (a n : Nat) (ha : a ≤ l.length) (h : (decI l a n).2.2 = 0) : encI (decI l a n).1 = l.drop a ∧ ∀ i ∈ (decI l a n).1, insBad i = 0 := by
  rw [decI] at h ⊢
  by_cases h1 : a < l.length
  · rw [if_pos h1] at h ⊢
    by_cases h2 : n < 16384
    · rw [if_pos h2] at h ⊢
      cases hr : readI l a with
      | error e =>
        rw [hr] at h
        have := readI_err hr
        simp only at h; omega
      | ok ik =>
        obtain ⟨i, k⟩ := ik
        rw [hr] at h
        simp only at h ⊢
        obtain ⟨g1, g2, g3⟩ := readI_dec h1 hr
        obtain ⟨k1, k2⟩ := decI_dec l (a + k) (n + 1) g2 h
        refine ⟨?_, fun j hj => ?_⟩
        · have : encI (i :: (decI l (a + k) (n + 1)).1) = encOne i ++ encI (decI l (a + k) (n + 1)).1 := by simp [encI]
          rw [this, k1, g3, ← List.drop_drop, List.take_append_drop]
        · rcases List.mem_cons.1 hj with rfl | hj
          · exact g1
          · exact k2 j hj
    · rw [if_neg h2] at h; simp at h
  · rw [if_neg h1]
    exact ⟨by rw [List.drop_of_length_le (by omega)]; rfl, fun i hi => by simp at hi⟩
termination_by 16384 - n
theorem expP_dec (l : List UInt8) (a : Nat) (acc : List Export) (ha : a ≤ l.length) (hg : ∀ j, j < acc.length → nameOk acc j = true) (h : (expP l a acc).2.2 = 0) :
    ∃ r, (expP l a acc).1 = acc ++ r ∧ namesB r = l.drop a ∧ ∀ j, j < (acc ++ r).length → nameOk (acc ++ r) j = true := by
  rw [expP] at h ⊢
  by_cases h1 : a < l.length
  · rw [if_pos h1] at h ⊢
    by_cases h2 : l.length < a + 5 ∨ l.length < a + 5 + (l.getD (a + 4) 0).toNat ∨ acc.length = 64
    · rw [if_pos h2] at h; simp at h
    rw [if_neg h2] at h ⊢
    simp only [not_or, Nat.not_lt] at h2
    obtain ⟨x, hx⟩ : ∃ x : Export, x = ⟨(l.drop (a + 5)).take (l.getD (a + 4) 0).toNat, wordAt l a⟩ := ⟨_, rfl⟩
    rw [← hx] at h ⊢
    by_cases h3 : nameOk (acc ++ [x]) acc.length = true
    · rw [if_pos h3] at h ⊢
      obtain ⟨r, e1, e2, e3⟩ := expP_dec l (a + 5 + (l.getD (a + 4) 0).toNat) (acc ++ [x]) (by omega) (fun j hj => by
        simp at hj
        by_cases hq : j < acc.length
        · rw [nameOk_prefix hq]; exact hg j hq
        · obtain rfl : j = acc.length := by omega
          exact h3) h
      refine ⟨x :: r, by rw [e1]; simp, ?_, by simpa using e3⟩
      have hn : namesB (x :: r) = nameB x ++ namesB r := by simp [namesB]
      have hxl : x.name.length = (l.getD (a + 4) 0).toNat := by rw [hx]; show (List.take _ _).length = _; rw [List.length_take, List.length_drop]; omega
      obtain ⟨p, q, s, t, d, hd⟩ := drop4 (l := l) (n := a) (by omega)
      have h5 : l.drop a = (l.drop a).take 4 ++ (l.getD (a + 4) 0 :: l.drop (a + 5)) := by
        conv => lhs; rw [← List.take_append_drop 4 (l.drop a)]
        rw [List.drop_drop, List.drop_eq_getElem_cons (show a + 4 < l.length by omega), List.getD, List.getElem?_eq_getElem (show a + 4 < l.length by omega)]
        rfl
      have hb4 : bytes4 x.place = (l.drop a).take 4 := by
        rw [hx]; unfold wordAt; rw [hd]; exact bytes4_word4 p q s t
      rw [hn, e2, h5]
      unfold nameB
      rw [hb4, hxl, show l.drop (a + 5 + (l.getD (a + 4) 0).toNat) = (l.drop (a + 5)).drop (l.getD (a + 4) 0).toNat from List.drop_drop.symm]
      have h8 : UInt8.ofNat (l.getD (a + 4) 0).toNat = l.getD (a + 4) 0 := by simp
      rw [h8]
      have hxn : x.name = (l.drop (a + 5)).take (l.getD (a + 4) 0).toNat := by rw [hx]
      rw [hxn, List.append_assoc, List.append_assoc, List.take_append_drop]
      rfl
    · rw [if_neg h3] at h; simp at h
  · rw [if_neg h1] at h ⊢
    refine ⟨[], by simp, by rw [List.drop_of_length_le (by omega)]; rfl, by simpa using hg⟩
termination_by l.length - a
theorem codeFrom_good {l : List Instr} {k : Nat} (h : ∀ i ∈ l, insBad i = 0) : codeFrom l k = 0 := by
  rw [codeFrom]
  split
  · rename_i hk
    rw [if_neg (by simp [h _ (List.getElem_mem hk)])]
    exact codeFrom_good h
  · rfl
termination_by l.length - k
theorem namesFrom_good {l : List Export} {k : Nat} (h : ∀ j, j < l.length → nameOk l j = true) : namesFrom l k = true := by
  rw [namesFrom]
  split
  · rename_i hk
    rw [h k hk, namesFrom_good h]; rfl
  · rfl
termination_by l.length - k
set_option maxHeartbeats 4000000 in
theorem disjoint4 {p0 p1 p2 p3 n0 n1 n2 n3 N : Nat} (s0 : p0 + n0 ≤ N) (s1 : p1 + n1 ≤ N) (s2 : p2 + n2 ≤ N) (s3 : p3 + n3 ≤ N) (h0 : n0 = 0 ∨ 64 ≤ p0) (h1 : n1 = 0 ∨ 64 ≤ p1) (h2 : n2 = 0 ∨ 64 ≤ p2) (h3 : n3 = 0 ∨ 64 ≤ p3) (hN : 64 ≤ N)
    (d01 : n0 = 0 ∨ n1 = 0 ∨ p0 + n0 ≤ p1 ∨ p1 + n1 ≤ p0) (d02 : n0 = 0 ∨ n2 = 0 ∨ p0 + n0 ≤ p2 ∨ p2 + n2 ≤ p0) (d03 : n0 = 0 ∨ n3 = 0 ∨ p0 + n0 ≤ p3 ∨ p3 + n3 ≤ p0)
    (d12 : n1 = 0 ∨ n2 = 0 ∨ p1 + n1 ≤ p2 ∨ p2 + n2 ≤ p1) (d13 : n1 = 0 ∨ n3 = 0 ∨ p1 + n1 ≤ p3 ∨ p3 + n3 ≤ p1) (d23 : n2 = 0 ∨ n3 = 0 ∨ p2 + n2 ≤ p3 ∨ p3 + n3 ≤ p2) : 64 + n0 + n1 + n2 + n3 ≤ N := by
  by_cases z0 : n0 = 0 <;> by_cases z1 : n1 = 0 <;> by_cases z2 : n2 = 0 <;> by_cases z3 : n3 = 0 <;> simp only [z0, z1, z2, z3, true_or, or_true, false_or] at d01 d02 d03 d12 d13 d23 h0 h1 h2 h3 <;> omega
end Go.Proofs.YtnojknodojjnnaaGreat
end
