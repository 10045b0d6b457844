/-
 CellSound: the law answers true, whatever the input.
-/
import Derived.Test.YtfplmcpkagpaiaaGreatDoorCf
import Derived.Test.YtfplmcpkagpaiaaGreatDoorNk
import Derived.Test.YtfplmcpkagpaiaaGreatDoorCi
import Derived.Test.YtfplmcpkagpaiaaGreatDoorMe
import Derived.Test.YtfplmcpkagpaiaaGreatDoorRows
import Derived.WalkKit
import Derived.ProofKit
import Derived.LaidMore
import Derived.OpenShut
import Derived.Stop.Joined
set_option maxRecDepth 100000
set_option linter.unusedSimpArgs false
set_option linter.unusedVariables false
section
namespace Go.Proofs.YtfplmcpkagpaiaaGreatDoor.cellSound
open Go Go.Sim Go.Sim.Kr Go.Proofs.YtfplmcpkagpaiaaGreatDoor Go.ChangeShapes Go.WideShapes Go.ChangeAt Go.WideMaps Go.WideElems Go.RowKit
abbrev tlaid : List (String × DataW Unit) := Rows.cellSoundRow.laid
theorem own : ownKnob Tryz.prog.godebug = none := by kernel_rfl
theorem gTab : Tryz.prog.globalNamed "math/bits.deBruijn64tab" = some 0 := by kernel_rfl
theorem tTab : (Tryz.prog.globals[0]?).map (·.type) = some 187 := by kernel_rfl
theorem laidOut : laidOutB Tryz.prog = true := by kernel_rfl
def tbI : List Int := [0, 1, 56, 2, 57, 49, 28, 3, 61, 58, 42, 50, 38, 29, 17, 4, 62, 47, 59, 36, 45, 43, 51, 22, 53, 39, 33, 30, 24, 18, 12, 5, 63, 55, 48, 27, 60, 41, 37, 16, 46, 35, 44, 21, 52, 32, 23, 11, 54, 26, 40, 15, 34, 20, 31, 10, 25, 14, 19, 9, 13, 8, 7, 6]
theorem crel_of {ok : Nat → Nat → Prop} {w : World} {b : Nat} {cs : List Value} (hb : ∀ n, ok b n) (hw : ∀ i, w.cell? ⟨b, i, none⟩ = cs[i]?) : ∀ (l : List Int) (i : Nat), (∀ j n, l[j]? = some n → cs[i + j]? = some (.int .u8 n)) → CRel ok w b i (l.map (.int .u8))
 | [], i, h => by simp only [List.map_nil, CRel]
 | n :: r, i, h => by
  simp only [List.map_cons, CRel]
  refine ⟨⟨.int .u8 n, by rw [hw]; exact h 0 n rfl, rfl, ⟨i + 1, Nat.lt_succ_self _, hb _⟩, by simp only [VRel]⟩, crel_of hb hw r (i + 1) fun j m hj => ?_⟩
  have := h (j + 1) m (by simpa using hj)
  rwa [show i + (j + 1) = i + 1 + j from by omega] at this
theorem cell_lt {w : World} {b i : Nat} {v : Value} (h : w.cell? ⟨b, i, none⟩ = some v) : b < w.heap.size := by
 unfold World.cell? at h
 by_cases hb : b < w.heap.size
 ·exact hb
 ·simp [Array.getElem?_eq_none (Nat.le_of_not_lt hb)] at h
theorem of_laid {W : World} (h : laidMetH Tryz.prog tlaid W) : Gl pM (fun b _ => b < W.heap.size) W := by
 intro g hg
 obtain rfl := pM_mark hg
 rw [MakeChecks.laidMetH_plain _ _ _ (by kernel_rfl)] at h
 obtain ⟨ps, ⟨g0, t0, cs0, f0, p0, q0, hg0, ht0, hv0, hd0, _⟩, _, _⟩ := h
 obtain rfl := Option.some.inj (gTab.symm.trans hg0)
 obtain rfl := Option.some.inj (tTab.symm.trans ht0)
 obtain ⟨xs, m1, rfl, hx1, hlen, hn3, hel⟩ := DataW.trod_array Tryz.underlying187 hd0
 have c5 : Tryz.prog.cellsOf 5 = 1 := by kernel_rfl
 have hcell := World.var?_cell hg0 hv0
 simp only [Prod.mk.injEq] at hx1
 have hlist : xs.map (·.1) = tbI.map fun n => DataW.lit (.int .u8 n) := by
  have e : DataW.agg (tbI.map fun n => DataW.lit (.int .u8 n)) = DataW.agg (xs.map (·.1)) := hx1.1
  exact (DataW.agg.inj e).symm
 have hcs : ∀ (j : Nat) n, tbI[j]? = some n → cs0.toList[j]? = some (.int .u8 n) := by
  intro j n hj
  have hlt : j < 64 := by
   have := (List.getElem?_eq_some_iff.1 hj).1
   exact this
  have h1 := congrArg (fun l => l[j]?) hlist
  simp only [List.getElem?_map, hj, Option.map_some, Option.map_eq_some_iff] at h1
  obtain ⟨x, hx, hx2⟩ := h1
  obtain ⟨k, e1, e2, _⟩ := DataW.trod_int Tryz.underlying5 ((hel j hlt).trans hx)
  rw [e2] at hx2
  have hk : k = n := by simpa using hx2
  subst hk
  rw [c5, Nat.mul_one] at e1
  have h2 := congrArg (fun l => l[0]?) e1
  simpa [List.getElem?_take, List.getElem?_drop] using h2
 have hlt : 0 < W.heap.size := by
  have h0 := hcell 0
  have h1 := hcs 0 0 rfl
  rw [← Array.getElem?_toList, h1] at h0
  exact cell_lt h0
 show CRel _ W 0 0 (tbI.map (.int .u8))
 exact crel_of (cs := cs0.toList) (fun _ => hlt) (fun i => by rw [hcell i]; simp) tbI 0 fun j n hj => by rw [Nat.zero_add]; exact hcs j n hj
theorem door_met (os : Os) (args : Array Value) : laidMetH Tryz.prog tlaid ((World.doorLaid Tryz.prog 400 os).forCall (fun _ _ => 0) ⟨#[], args, []⟩).memory :=
 laidMetH_of_parts3 (fuel := 8) (laidMet_of_run' 8 (by kernel_rfl) (by kernel_rfl)) (by kernel_rfl) (by kernel_rfl)
theorem reads : (Tryz.f4.params.toList.all fun t => Tryz.prog.readableRec t && decide (t < Tryz.prog.types.size)) = true := by kernel_rfl
theorem lifted (os : Os) (started : os.Started) (H : Type) (enc : TypeId × Value → H) :
  ReturnsInHanded {} Tryz.checked os 4 .any (fun w args => (Rows.cellSoundSpec.pre enc Tryz.prog Tryz.f4 [] false w args ∧ laidMetH Tryz.prog tlaid w) ∧ sizedMet enc Tryz.prog Tryz.f4 (OpenSpec.ofChange Rows.cellSoundSpec) false w args)
   (Rows.cellSoundSpec.post enc Tryz.prog Tryz.f4 false true false false) := by
 refine returnsInHanded_of_change_and (C := Tryz.checked) (X := fun w _ => laidMetH Tryz.prog tlaid w) (fun _ _ _ hh h => h.of_heap hh) own started (by kernel_rfl) Tryz.func4
  (ChangeSpec.witness_shaped (enc := enc) (C := Tryz.checked) (os := os) (X := fun w _ => laidMetH Tryz.prog tlaid w) false (World.doorLaid Tryz.prog 400 os) #[.agg #[.slice none 0 0, .slice none 0 0, .slice none 0 0, .int .u32 0, .int .u32 0, .slice none 0 0]] 8 rfl (World.shaped_of_RefB (by kernel_rfl) (by kernel_rfl)) (by kernel_rfl) (by kernel_rfl) (by kernel_rfl) (door_met os _)) ?_
 intro W base args ds gs before hval0 hW hcnd hwt hL _
 have hval := hval0
 have hW' := hW
 obtain ⟨p, q, hA0, hV, rfl, hfz, hnd⟩ := hW
 have hA : DataW.TrodAll enc Tryz.prog W 0 (fun _ => true) true Tryz.f4.params.toList args.toList ds p := hA0
 rw [Tryz.params4] at hA hval
 obtain ⟨v0, vs0, d0, ds0, p0, q0, hargs, rfl, rfl, h0, r0⟩ := trodAll_cons hA
 obtain ⟨rfl, rfl, rfl⟩ := trodAll_nil r0
 obtain rfl : args = #[v0] := by cases args; simp_all
 obtain ⟨rfl, rfl⟩ := trodVars_none hV
 obtain ⟨x, g0, m0⟩ := img_in (hval 0 28 v0 rfl rfl) h0
 obtain ⟨b0, b1, b2, b3⟩ := m0 0 _ _ rfl rfl hwt
 have hlaw := Fl.CellSound x (by omega) (by omega) (by omega) (by omega)
 have hc := law_callsP (E := E) (w := W) (args' := #[v0]) eqOk fnOk knownOk knownIn (f := 4) rfl rfl (by simp) (by simp) hlaw (of_laid hL) (by simp only [VRelL]; exact ⟨v0, _, rfl, g0, rfl⟩)
 refine Calls.mono (P := Tryz.prog) hc fun e W' ⟨he, hb⟩ => ?_
 subst he
 exact ⟨_, rfl, law_post (tb := 4) laidOut (fun t ht => by have := List.all_eq_true.1 reads t ht; simp at this; exact this) Tryz.underlying4 (by kernel_rfl) rfl hW' rfl hb⟩
end Go.Proofs.YtfplmcpkagpaiaaGreatDoor.cellSound
end
