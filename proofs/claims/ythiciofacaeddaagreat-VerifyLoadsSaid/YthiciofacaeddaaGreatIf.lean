/-
 The law ImageGaps, walked.
 Plain facts: what lies between the segments says nothing.
 Plain facts: what is written is read again.
 Plain facts: what is written is read again: the header.
 Plain facts: what is read may be written, and is no longer then.
-/
import Derived.Test.YthiciofacaeddaaGreatId
section
namespace Go.Proofs.YthiciofacaeddaaGreat
open Go Go.Sim
set_option maxRecDepth 100000
set_option linter.unusedSimpArgs false
set_option linter.unusedVariables false

theorem wordsOf_len : ∀ l : List UInt8, (wordsOf l).length ≤ l.length
 | [] => by simp [wordsOf]
 | [_] => by simp [wordsOf]
 | [_, _] => by simp [wordsOf]
 | [_, _, _] => by simp [wordsOf]
 | a :: b :: c :: d :: r => by
  have := wordsOf_len r
  simp [wordsOf]; omega
theorem expP_len (l : List UInt8) (a : Nat) (acc : List Export) (h : acc.length ≤ 64) : (expP l a acc).1.length ≤ 64 := by
 rw [expP]
 split
 ·split
  ·simp
  ·split
   ·exact expP_len l _ _ (by simp; omega)
   ·simp
 ·exact h
termination_by l.length - a
theorem parse_len (l : List UInt8) : (parseP l).1.code.length ≤ 16384 ∧ (parseP l).1.jumps.length ≤ l.length ∧ (parseP l).1.data.length ≤ l.length ∧ (parseP l).1.names.length ≤ 64 := by
 have q1 := segP_len l 1
 have q2 := segP_len l 2
 have w1 := wordsOf_len (segP l 1)
 have d0 := decI_len (segP l 0) 0 0 (by omega)
 have x3 := expP_len (segP l 3) 0 [] (by simp)
 unfold parseP
 repeat' split
 all_goals first | (simp [img0]; done) | exact ⟨by simpa using d0, by simp only; omega, by simp only; omega, x3⟩
end Go.Proofs.YthiciofacaeddaaGreat
end
section
namespace Go.Proofs.YthiciofacaeddaaGreat
open Go Go.Sim

end Go.Proofs.YthiciofacaeddaaGreat
end
section
namespace Go.Proofs.YthiciofacaeddaaGreat
open Go Go.Sim
set_option linter.unusedSimpArgs false
set_option linter.unusedVariables false

end Go.Proofs.YthiciofacaeddaaGreat
end
section
namespace Go.Proofs.YthiciofacaeddaaGreat
open Go Go.Sim
set_option linter.unusedSimpArgs false
set_option linter.unusedVariables false

noncomputable def headW (x : Img) : List UInt32 := [1, 0, UInt32.ofNat x.code.length, 64, UInt32.ofNat (encI x.code).length, UInt32.ofNat (64 + (encI x.code).length), UInt32.ofNat (words x.jumps).length,
 UInt32.ofNat (64 + (encI x.code).length + (words x.jumps).length), UInt32.ofNat x.data.length, UInt32.ofNat (64 + (encI x.code).length + (words x.jumps).length + x.data.length), UInt32.ofNat (namesB x.names).length, x.zero, x.stack, 0, 0]
theorem encF_eq (x : Img) : encF x = [80, 69, 78, 33] ++ words (headW x) ++ (encI x.code ++ words x.jumps ++ x.data ++ namesB x.names) := by
 have e : ∀ a b : List UInt32, words a ++ words b = words (a ++ b) := fun a b => (words_append a b).symm
 unfold encF headW
 simp [words]
structure Sizes (x : Img) : Prop where
 a : (encI x.code).length ≤ 81920
 b : (words x.jumps).length ≤ 65536
 c : x.data.length ≤ 65536
 d : (namesB x.names).length ≤ 2368
 code : x.code.length ≤ 16384
theorem sizes {x : Img} (hc : checkP x = 0) : Sizes x := by
 obtain ⟨c1, c2, c3, c4, c5, c6, c7⟩ := check_ok hc
 have a0 := encI_len x.code
 have a1 := words_length x.jumps
 have hn32 : ∀ n ∈ x.names, n.name.length ≤ 32 := fun n hn => by
  obtain ⟨j, hj, rfl⟩ := List.mem_iff_getElem.1 hn
  exact (name_len hj (names_good c7 j (Nat.zero_le j) hj)).2
 have := namesB_len hn32
 exact ⟨by omega, by omega, by omega, by omega, c1⟩
theorem encF_len (x : Img) : (encF x).length = 64 + (encI x.code).length + (words x.jumps).length + x.data.length + (namesB x.names).length := by
 rw [encF_eq]; simp [words_length, headW]; omega
theorem u32 {n : Nat} (h : n < 4294967296) : (UInt32.ofNat n).toNat = n := by rw [UInt32.toNat_ofNat', Nat.mod_eq_of_lt h]
end Go.Proofs.YthiciofacaeddaaGreat
end
section
namespace Go.Proofs.YthiciofacaeddaaGreat
open Go Go.Sim
set_option linter.unusedSimpArgs false
set_option linter.unusedVariables false

theorem codeFrom_good {l : List Instr} {k : Nat} (h : ∀ i ∈ l, insBad i = 0) : codeFrom l k = 0 := by
 rw [codeFrom]
 split
 ·rename_i hk
  rw [if_neg (by simp [h _ (List.getElem_mem hk)])]
  exact codeFrom_good h
 ·rfl
termination_by l.length - k
theorem namesFrom_good {l : List Export} {k : Nat} (h : ∀ j, j < l.length → nameOk l j = true) : namesFrom l k = true := by
 rw [namesFrom]
 split
 ·rename_i hk
  rw [h k hk, namesFrom_good h]; rfl
 ·rfl
termination_by l.length - k
end Go.Proofs.YthiciofacaeddaaGreat
end
