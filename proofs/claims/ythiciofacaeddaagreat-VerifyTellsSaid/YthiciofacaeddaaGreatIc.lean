/-
  image.Parse.
-/
import Derived.Test.YthiciofacaeddaaGreatIa
import Derived.Test.YthiciofacaeddaaGreatIb
section
namespace Go.Proofs.YthiciofacaeddaaGreat
open Go Go.Sim
set_option maxRecDepth 100000
set_option linter.unusedSimpArgs false
set_option linter.unusedVariables false

structure Img where
  code : List Instr
  jumps : List UInt32
  data : List UInt8
  zero : UInt32
  stack : UInt32
  names : List Export
abbrev imgV (x : Img) : V := .agg [lst eInstr x.code, ws x.jumps, bs x.data, w32 x.zero.toNat, w32 x.stack.toNat, lst eExport x.names]
def segP (l : List UInt8) (i : Nat) : List UInt8 := (l.drop (spanI l i).place.toNat).take (spanI l i).len.toNat
def stackOk (n : UInt32) : Bool := decide (n.toNat % 4 = 0 ∧ 64 ≤ n.toNat ∧ n.toNat ≤ 32768)
theorem part (l : List UInt8) (hl : l.length < 2 ^ 40) (hs : ∀ i, i < 4 → (spanI l i).stop ≤ l.length) (lent : Bool) (i : Int) (h0 : 0 ≤ i) (hi : i < 4) :
    pureV E (om E) 85 lent [.int .i64 i, .pcon [lst eU8 l] 0, .pcon [lst eSpan (spansP l)] 0] = some (bs (segP l i.toNat)) := by
  obtain ⟨i, rfl⟩ := Int.eq_ofNat_of_zero_le h0
  apply pu_85
  have hC := fun s (h : s.stop ≤ l.length) => Cut l s hl h
  have h4 : (spansP l)[i]? = some (spanI l i) := by
    have : i = 0 ∨ i = 1 ∨ i = 2 ∨ i = 3 := by omega
    rcases this with rfl | rfl | rfl | rfl <;> rfl
  have hl4 : (spansP l).length = 4 := rfl
  have hge : (spansP l)[i]'(by omega) = spanI l i := by
    rw [List.getElem?_eq_getElem (by omega)] at h4; exact Option.some.inj h4
  have hC' := hC _ (hs i (by omega))
  have hst := hs i (by omega)
  unfold Span.stop at hst
  by_cases hz : (spanI l i).len.toNat = 0
  · simp (disch := omega) [if_pos, if_neg, iteK_pos, iteK_neg, Tryz.f85, hl4, hge, hC', segP]
    rw [hz]; rfl
  · simp (disch := omega) [if_pos, if_neg, iteK_pos, iteK_neg, Tryz.f85, hl4, hge, hC', segP]
    exact res_lst eU8 (by simp; omega) rfl
end Go.Proofs.YthiciofacaeddaaGreat
end
