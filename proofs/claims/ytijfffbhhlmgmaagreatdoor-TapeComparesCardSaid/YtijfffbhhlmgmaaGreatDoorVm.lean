/-
 TapeCompares, walked.
-/
import Derived.Test.YtijfffbhhlmgmaaGreatDoorVg
import Derived.Test.YtijfffbhhlmgmaaGreatDoorVi
import Derived.Test.YtijfffbhhlmgmaaGreatDoorVn
section
namespace Go.Proofs.YtijfffbhhlmgmaaGreatDoor
open Go Go.Sim Go.Sim.Tape
set_option maxRecDepth 100000
set_option maxHeartbeats 0
set_option linter.unusedSimpArgs false
set_option linter.unusedVariables false

theorem copied_at_some (m : UInt64) (gr : List Gr) (ks : List Tk) (hg : ¬ gr = []) (h1 : gr.length * 16 ≤ 140737488351232) (h2 : ks.length * 160 ≤ 140737488351232) (hf : ∀ k ∈ ks, FTk k) : ∃ fr : Bool, ∀ (B : List Blk) (r : Heap),
  callV E (om E) 7 [.agg [u64V m, lst eGr gr, lst eTk ks]] (B :: r) = some (.agg [u64V m, .sref 0 (B.length + 3) 0 gr.length 0 (2, false), tkR (B.length + 4) ks.length],
   (B ++ [.row [u64V m, lst eGr gr, lst eTk ks] 0 3 true false, .row [u64V m, .sref 0 (B.length + 3) 0 gr.length 0 (2, false), tkR (B.length + 4) ks.length] 0 3 false false, .row [u64V m, .sref 0 (B.length + 3) 0 gr.length 0 (2, false), tkR (B.length + 4) ks.length] 0 3 false false,
    .row (cat eGr gr) 0 2 true true, .row (tkCs ks) ks.length 16 fr fr]) :: r) := by
 refine ⟨decide (ks.length = 0), fun B r => ?_⟩
 rw [call_7]
 have hv : viewArgs (B :: r) [.agg [u64V m, lst eGr gr, lst eTk ks]] = some [.agg [u64V m, lst eGr gr, lst eTk ks]] := by simp
 rw [hv]
 simp only [Option.bind_some, copied_some m gr ks hg h1 h2 hf]
 have ho := outL_flat B.length (tkCs ks) (tkCs_lk ks).flat
 simp [ho, Nat.add_comm]
theorem copied_at_none (m : UInt64) (ks : List Tk) (h2 : ks.length * 160 ≤ 140737488351232) (hf : ∀ k ∈ ks, FTk k) : ∃ fr : Bool, ∀ (B : List Blk) (r : Heap),
  callV E (om E) 7 [.agg [u64V m, lst eGr ([] : List Gr), lst eTk ks]] (B :: r) = some (.agg [u64V m, .nilslice, tkR (B.length + 3) ks.length],
   (B ++ [.row [u64V m, lst eGr ([] : List Gr), lst eTk ks] 0 3 true false, .row [u64V m, .nilslice, tkR (B.length + 3) ks.length] 0 3 false false, .row [u64V m, .nilslice, tkR (B.length + 3) ks.length] 0 3 false false,
    .row (tkCs ks) ks.length 16 fr fr]) :: r) := by
 refine ⟨decide (ks.length = 0), fun B r => ?_⟩
 rw [call_7]
 have hv : viewArgs (B :: r) [.agg [u64V m, lst eGr ([] : List Gr), lst eTk ks]] = some [.agg [u64V m, lst eGr ([] : List Gr), lst eTk ks]] := by simp
 rw [hv]
 simp only [Option.bind_some, copied_none m ks h2 hf]
 have ho := outL_flat B.length (tkCs ks) (tkCs_lk ks).flat
 simp [ho, Nat.add_comm]
theorem trueV_nil (h : Heap) : Kr.trueV [] h = some (.bool true, h) := rfl
theorem law_heavy (x y : Tp) (hx : FTp x) (hy : FTp y) (h : heavyF x = true ∨ heavyF y = true) : pureV E (om E) 3 false [tpV x, tpV y] = some (bb true) := by
 apply pu_3
 have h1 := fun lent => heavy_ok lent x hx
 have h2 := fun lent => heavy_ok lent y hy
 simp only [tpV] at h1 h2 ⊢
 by_cases c1 : heavyF x = true
 ·simp (disch := omega) [if_pos, if_neg, iteK_pos, iteK_neg, Tryz.f3, h1, c1, trueV_nil]
 ·have c2 : heavyF y = true := by simpa [c1] using h
  simp (disch := omega) [if_pos, if_neg, iteK_pos, iteK_neg, Tryz.f3, h1, h2, c1, c2, trueV_nil]
theorem law_ss (x y : Tp) (hx : FTp x) (hy : FTp y) (c1 : heavyF x = false) (c2 : heavyF y = false) (gx : ¬ x.grants = []) (gy : ¬ y.grants = []) : pureV E (om E) 3 false [tpV x, tpV y] = some (bb true) := by
 apply pu_3
 have h1 := fun lent => heavy_ok lent x hx
 have h2 := fun lent => heavy_ok lent y hy
 have hC := fun lent => tCompare lent x y hx hy
 have hD := fun lent => tCompare lent x x hx hx
 have hR := fun lent => rCompare lent x y hx hy
 have hS := fun lent => same_ok lent x x hx hx
 have hT := fun lent => same_ok lent y y hy hy
 have hq : ∀ p q, binO E .eql 32 p q (dfV (cmpF x y)) (dfV (cmpF x y)) = some (bb true) := fun p q => by rw [eqDf]; simp
 have hq2 : ∀ p q, binO E .eql 32 p q (dfV (0, 0, 0)) (.agg [.int .u8 0, .int .i64 0, .int .i64 0]) = some (bb true) := fun p q => (eqDf p q (0, 0, 0) (0, 0, 0)).trans (by simp)
 rw [cmpF_same] at hD hS hT
 obtain ⟨fx, px⟩ := copied_at_some x.module x.grants x.takes gx hx.grants hx.takes hx.each
 obtain ⟨fy, py⟩ := copied_at_some y.module y.grants y.takes gy hy.grants hy.takes hy.each
 have vx := fun (n : Nat) (H : Heap) => (tkCs_lk x.takes).views n H
 have vy := fun (n : Nat) (H : Heap) => (tkCs_lk y.takes).views n H
 have cx := (tkCs_lk x.takes).cut (n := x.takes.length) (k := 16) rfl rfl
 have cy := (tkCs_lk y.takes).cut (n := y.takes.length) (k := 16) rfl rfl
 have nx := (tkCs_lk x.takes).canon
 have ny := (tkCs_lk y.takes).canon
 simp only [tpV] at h1 h2 hC hD hR hS hT ⊢
 simp (disch := omega) [if_pos, if_neg, iteK_pos, iteK_neg, Tryz.f3, h1, h2, c1, c2, px, py, hC, hD, hR, hS, hT, hq, hq2, vx, vy, cx, cy, nx, ny, trueV_nil]
 rw [iteK_pos (by kernel_rfl)]
 simp (disch := omega) [if_pos, if_neg, iteK_pos, iteK_neg]
theorem law_sn (x y : Tp) (hx : FTp x) (hy : FTp y) (c1 : heavyF x = false) (c2 : heavyF y = false) (gx : ¬ x.grants = []) (gy : y.grants = []) : pureV E (om E) 3 false [tpV x, tpV y] = some (bb true) := by
 apply pu_3
 have h1 := fun lent => heavy_ok lent x hx
 have h2 := fun lent => heavy_ok lent y hy
 have hC := fun lent => tCompare lent x y hx hy
 have hD := fun lent => tCompare lent x x hx hx
 have hR := fun lent => rCompare lent x y hx hy
 have hS := fun lent => same_ok lent x x hx hx
 have hT := fun lent => same_ok lent y y hy hy
 have hq : ∀ p q, binO E .eql 32 p q (dfV (cmpF x y)) (dfV (cmpF x y)) = some (bb true) := fun p q => by rw [eqDf]; simp
 have hq2 : ∀ p q, binO E .eql 32 p q (dfV (0, 0, 0)) (.agg [.int .u8 0, .int .i64 0, .int .i64 0]) = some (bb true) := fun p q => (eqDf p q (0, 0, 0) (0, 0, 0)).trans (by simp)
 rw [cmpF_same] at hD hS hT
 obtain ⟨fx, px⟩ := copied_at_some x.module x.grants x.takes gx hx.grants hx.takes hx.each
 obtain ⟨fy, py⟩ := copied_at_none y.module y.takes hy.takes hy.each
 have vx := fun (n : Nat) (H : Heap) => (tkCs_lk x.takes).views n H
 have vy := fun (n : Nat) (H : Heap) => (tkCs_lk y.takes).views n H
 have cx := (tkCs_lk x.takes).cut (n := x.takes.length) (k := 16) rfl rfl
 have cy := (tkCs_lk y.takes).cut (n := y.takes.length) (k := 16) rfl rfl
 have nx := (tkCs_lk x.takes).canon
 have ny := (tkCs_lk y.takes).canon
 simp only [tpV] at h1 h2 hC hD hR hS hT ⊢
 rw [gy] at h2 hC hR hT ⊢
 simp only [lst_nil] at h2 hT py hC hR ⊢
 simp (disch := omega) [if_pos, if_neg, iteK_pos, iteK_neg, Tryz.f3, h1, h2, c1, c2, px, py, hC, hD, hR, hS, hT, hq, hq2, vx, vy, cx, cy, nx, ny, trueV_nil]
 rw [iteK_pos (by kernel_rfl)]
 simp (disch := omega) [if_pos, if_neg, iteK_pos, iteK_neg]
theorem law_ns (x y : Tp) (hx : FTp x) (hy : FTp y) (c1 : heavyF x = false) (c2 : heavyF y = false) (gx : x.grants = []) (gy : ¬ y.grants = []) : pureV E (om E) 3 false [tpV x, tpV y] = some (bb true) := by
 apply pu_3
 have h1 := fun lent => heavy_ok lent x hx
 have h2 := fun lent => heavy_ok lent y hy
 have hC := fun lent => tCompare lent x y hx hy
 have hD := fun lent => tCompare lent x x hx hx
 have hR := fun lent => rCompare lent x y hx hy
 have hS := fun lent => same_ok lent x x hx hx
 have hT := fun lent => same_ok lent y y hy hy
 have hq : ∀ p q, binO E .eql 32 p q (dfV (cmpF x y)) (dfV (cmpF x y)) = some (bb true) := fun p q => by rw [eqDf]; simp
 have hq2 : ∀ p q, binO E .eql 32 p q (dfV (0, 0, 0)) (.agg [.int .u8 0, .int .i64 0, .int .i64 0]) = some (bb true) := fun p q => (eqDf p q (0, 0, 0) (0, 0, 0)).trans (by simp)
 rw [cmpF_same] at hD hS hT
 obtain ⟨fx, px⟩ := copied_at_none x.module x.takes hx.takes hx.each
 obtain ⟨fy, py⟩ := copied_at_some y.module y.grants y.takes gy hy.grants hy.takes hy.each
 have vx := fun (n : Nat) (H : Heap) => (tkCs_lk x.takes).views n H
 have vy := fun (n : Nat) (H : Heap) => (tkCs_lk y.takes).views n H
 have cx := (tkCs_lk x.takes).cut (n := x.takes.length) (k := 16) rfl rfl
 have cy := (tkCs_lk y.takes).cut (n := y.takes.length) (k := 16) rfl rfl
 have nx := (tkCs_lk x.takes).canon
 have ny := (tkCs_lk y.takes).canon
 simp only [tpV] at h1 h2 hC hD hR hS hT ⊢
 rw [gx] at h1 hC hD hR hS ⊢
 simp only [lst_nil] at h1 hD hS px hC hR ⊢
 simp (disch := omega) [if_pos, if_neg, iteK_pos, iteK_neg, Tryz.f3, h1, h2, c1, c2, px, py, hC, hD, hR, hS, hT, hq, hq2, vx, vy, cx, cy, nx, ny, trueV_nil]
 rw [iteK_pos (by kernel_rfl)]
 simp (disch := omega) [if_pos, if_neg, iteK_pos, iteK_neg]
theorem law_nn (x y : Tp) (hx : FTp x) (hy : FTp y) (c1 : heavyF x = false) (c2 : heavyF y = false) (gx : x.grants = []) (gy : y.grants = []) : pureV E (om E) 3 false [tpV x, tpV y] = some (bb true) := by
 apply pu_3
 have h1 := fun lent => heavy_ok lent x hx
 have h2 := fun lent => heavy_ok lent y hy
 have hC := fun lent => tCompare lent x y hx hy
 have hD := fun lent => tCompare lent x x hx hx
 have hR := fun lent => rCompare lent x y hx hy
 have hS := fun lent => same_ok lent x x hx hx
 have hT := fun lent => same_ok lent y y hy hy
 have hq : ∀ p q, binO E .eql 32 p q (dfV (cmpF x y)) (dfV (cmpF x y)) = some (bb true) := fun p q => by rw [eqDf]; simp
 have hq2 : ∀ p q, binO E .eql 32 p q (dfV (0, 0, 0)) (.agg [.int .u8 0, .int .i64 0, .int .i64 0]) = some (bb true) := fun p q => (eqDf p q (0, 0, 0) (0, 0, 0)).trans (by simp)
 rw [cmpF_same] at hD hS hT
 obtain ⟨fx, px⟩ := copied_at_none x.module x.takes hx.takes hx.each
 obtain ⟨fy, py⟩ := copied_at_none y.module y.takes hy.takes hy.each
 have vx := fun (n : Nat) (H : Heap) => (tkCs_lk x.takes).views n H
 have vy := fun (n : Nat) (H : Heap) => (tkCs_lk y.takes).views n H
 have cx := (tkCs_lk x.takes).cut (n := x.takes.length) (k := 16) rfl rfl
 have cy := (tkCs_lk y.takes).cut (n := y.takes.length) (k := 16) rfl rfl
 have nx := (tkCs_lk x.takes).canon
 have ny := (tkCs_lk y.takes).canon
 simp only [tpV] at h1 h2 hC hD hR hS hT ⊢
 rw [gx] at h1 hC hD hR hS ⊢
 rw [gy] at h2 hC hR hT ⊢
 simp only [lst_nil] at h1 hD hS px h2 hT py hC hR ⊢
 simp (disch := omega) [if_pos, if_neg, iteK_pos, iteK_neg, Tryz.f3, h1, h2, c1, c2, px, py, hC, hD, hR, hS, hT, hq, hq2, vx, vy, cx, cy, nx, ny, trueV_nil]
 rw [iteK_pos (by kernel_rfl)]
 simp (disch := omega) [if_pos, if_neg, iteK_pos, iteK_neg]
theorem TapeCompares_ok (x y : Tp) (hx : FTp x) (hy : FTp y) : pureV E (om E) 3 false [tpV x, tpV y] = some (bb true) := by
 by_cases h : heavyF x = true ∨ heavyF y = true
 ·exact law_heavy x y hx hy h
 ·have c1 : heavyF x = false := by simpa using fun h1 => h (.inl h1)
  have c2 : heavyF y = false := by simpa using fun h1 => h (.inr h1)
  by_cases gx : x.grants = [] <;> by_cases gy : y.grants = []
  ·exact law_nn x y hx hy c1 c2 gx gy
  ·exact law_ns x y hx hy c1 c2 gx gy
  ·exact law_sn x y hx hy c1 c2 gx gy
  ·exact law_ss x y hx hy c1 c2 gx gy
end Go.Proofs.YtijfffbhhlmgmaaGreatDoor
end
