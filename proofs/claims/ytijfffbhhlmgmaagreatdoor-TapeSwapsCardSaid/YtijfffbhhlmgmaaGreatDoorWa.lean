/-
  copied, by contents; TapeSwaps, walked.
-/
import Derived.Test.YtijfffbhhlmgmaaGreatDoorVg
import Derived.Test.YtijfffbhhlmgmaaGreatDoorVi
import Derived.Test.YtijfffbhhlmgmaaGreatDoorVn
import Derived.Test.YtijfffbhhlmgmaaGreatDoorVs
import Derived.Test.YtijfffbhhlmgmaaGreatDoorMt
section
namespace Go.Proofs.YtijfffbhhlmgmaaGreatDoor
open Go Go.Sim Go.Sim.Tape
set_option maxRecDepth 100000
set_option maxHeartbeats 0
set_option linter.unusedSimpArgs false
set_option linter.unusedVariables false

theorem copiedP (t : Tp) (ht : FTp t) : pureV E (om E) 7 false [.agg [u64V t.module, lst eGr t.grants, lst eTk t.takes]] = some (.agg [u64V t.module, lst eGr t.grants, lst eTk t.takes]) := by
  obtain ⟨m, gr, ks⟩ := t
  have h1 := ht.grants
  have h2 := ht.takes
  have h3 := ht.each
  dsimp only at h1 h2 h3 ⊢
  have hT := tkCs_lk ks
  have hv := fun (H : Heap) => hT.views 48 H
  have hc := hT.canon
  have hcut := hT.cut (n := ks.length) (k := 16) rfl rfl
  unfold pureV
  by_cases hg : gr = []
  · subst hg
    have hb := copied_none m ks h2 h3
    rw [hb]
    simp [hv, hc, hcut, tkR]
  · have hb := copied_some m gr ks hg h1 h2 h3
    rw [hb]
    simp [hv, hc, hcut, tkR]
theorem trueV_nil (h : Heap) : Kr.trueV [] h = some (.bool true, h) := rfl
theorem neqDf (p q : Operand) (a b : Nat × Nat × Nat) : binO E .neq 32 p q (dfV a) (dfV b) = some (bb (!decide (a = b))) := by
  have h := eqDf p q a b
  simp only [binO, binV] at h ⊢
  cases hq : eqV E 200 32 (dfV a) (dfV b) with
  | none => rw [hq] at h; cases h
  | some c =>
    rw [hq] at h
    simp only [Option.map_some, Option.some.injEq, V.bool.injEq] at h ⊢
    rw [h]
theorem swap_heavy (x y : Tp) (hx : FTp x) (hy : FTp y) (n : Int) (h : heavyF x = true ∨ heavyF y = true) : pureV E (om E) 4 false [tpV x, tpV y, .int .i64 n] = some (bb true) := by
  apply pu_4
  have h1 := fun lent => heavy_ok lent x hx
  have h2 := fun lent => heavy_ok lent y hy
  simp only [tpV] at h1 h2 ⊢
  by_cases c1 : heavyF x = true
  · simp (disch := omega) [if_pos, if_neg, iteK_pos, iteK_neg, Tryz.f4, h1, c1, trueV_nil]
  · have c2 : heavyF y = true := by simpa [c1] using h
    simp (disch := omega) [if_pos, if_neg, iteK_pos, iteK_neg, Tryz.f4, h1, h2, c1, c2, trueV_nil]
theorem swap_ok (x y : Tp) (hx : FTp x) (hy : FTp y) (n : Int) (b1 : -9223372036854775808 ≤ n) (b2 : n ≤ 9223372036854775807) (c1 : heavyF x = false) (c2 : heavyF y = false) :
    pureV E (om E) 4 false [tpV x, tpV y, .int .i64 n] = some (bb true) := by
  apply pu_4
  have h1 := fun lent => heavy_ok lent x hx
  have h2 := fun lent => heavy_ok lent y hy
  have px := copiedP x hx
  have py := copiedP y hy
  have hC := fun lent => tCompare lent x y hx hy
  have hS := fun lent => tCompare lent y x hy hx
  have hD := fun lent => tCompare lent x x hx hx
  have hK := tCut x hx n b1 b2
  rw [cmpF_symm y x] at hS
  rw [cmpF_same] at hD
  have q1 : ∀ p q, binO E .neq 32 p q (dfV (cmpF x y)) (dfV (cmpF x y)) = some (bb false) := fun p q => by rw [neqDf]; simp
  have q2 : ∀ p q, binO E .neq 32 p q (dfV (0, 0, 0)) (.agg [.int .u8 0, .int .i64 0, .int .i64 0]) = some (bb false) := fun p q => (neqDf p q (0, 0, 0) (0, 0, 0)).trans (by simp)
  have q3 : ∀ p q, binO E .eql 32 p q (dfV (0, 0, 0)) (.agg [.int .u8 0, .int .i64 0, .int .i64 0]) = some (bb true) := fun p q => (eqDf p q (0, 0, 0) (0, 0, 0)).trans (by simp)
  have hkx := hx.takes
  unfold cutF at hK
  simp only [tpV] at h1 h2 hC hS hD hK ⊢
  by_cases a1 : (checkF x).2 = 0
  case neg =>
    rw [if_pos a1] at hK
    simp (disch := omega) [if_pos, if_neg, iteK_pos, iteK_neg, Tryz.f4, h1, h2, c1, c2, px, py, hC, hS, hD, hK, q1, q2, trueV_nil, a1]
  rw [if_neg (by simpa using a1)] at hK
  by_cases a2 : n < 0 ∨ (x.takes.length : Int) < n
  case pos =>
    rw [if_pos a2] at hK
    simp (disch := omega) [if_pos, if_neg, iteK_pos, iteK_neg, Tryz.f4, h1, h2, c1, c2, px, py, hC, hS, hD, hK, q1, q2, trueV_nil]
  rw [if_neg a2] at hK
  obtain ⟨m, rfl⟩ : ∃ m : Nat, n = (m : Int) := ⟨n.toNat, by omega⟩
  have hm : m ≤ x.takes.length := by omega
  have hT : FTp ⟨x.module, x.grants, x.takes.take m⟩ := ⟨hx.grants, by simp; omega, fun k hk => hx.each k (List.mem_of_mem_take hk)⟩
  have hF := fun lent => tCompare lent x ⟨x.module, x.grants, x.takes.take m⟩ hx hT
  simp only [tpV] at hF
  simp only [Int.toNat_natCast] at hK
  by_cases a3 : m = x.takes.length
  · rw [cmpF_all a3] at hF
    have a4 := eq_true a3
    simp (disch := omega) [if_pos, if_neg, iteK_pos, iteK_neg, Tryz.f4, h1, h2, c1, c2, px, py, hC, hS, hD, hK, hF, q1, q2, q3, trueV_nil, a4]
  · rw [cmpF_take (by omega)] at hF
    have a4 := eq_false a3
    have q4 : ∀ p q, binO E .eql 32 p q (dfV (9, m, 0)) (.agg [.int .u8 9, .int .i64 (m : Int), .int .i64 0]) = some (bb true) := fun p q => (eqDf p q (9, m, 0) (9, m, 0)).trans (by simp)
    simp (disch := omega) [if_pos, if_neg, iteK_pos, iteK_neg, Tryz.f4, h1, h2, c1, c2, px, py, hC, hS, hD, hK, hF, q1, q2, q4, trueV_nil, a4]
theorem TapeSwaps_ok (x y : Tp) (hx : FTp x) (hy : FTp y) (n : Int) (b1 : -9223372036854775808 ≤ n) (b2 : n ≤ 9223372036854775807) : pureV E (om E) 4 false [tpV x, tpV y, .int .i64 n] = some (bb true) := by
  cases c1 : heavyF x with
  | true => exact swap_heavy x y hx hy n (.inl c1)
  | false =>
    cases c2 : heavyF y with
    | true => exact swap_heavy x y hx hy n (.inr c2)
    | false => exact swap_ok x y hx hy n b1 b2 c1 c2
end Go.Proofs.YtijfffbhhlmgmaaGreatDoor
end
