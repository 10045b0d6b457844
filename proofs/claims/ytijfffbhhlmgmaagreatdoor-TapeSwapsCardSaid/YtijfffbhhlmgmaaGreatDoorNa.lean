/-
  The settings of the machine for closed laws. Printed by program.
  The settings of the machine for closed laws, and that they are sound. Printed by program.
  The settings go on. Printed by program.
-/
import Derived.Test.YtijfffbhhlmgmaaGreatDoorProg
import Derived.Test.YtijfffbhhlmgmaaGreatDoorMg
import Derived.KernelRfl
import Derived.Test.YtijfffbhhlmgmaaGreatDoorMh
import Derived.WalkKit
import Derived.ProofKit
section
namespace Go.Proofs.YtijfffbhhlmgmaaGreatDoor
open Go Go.Sim Go.Sim.Kr
set_option maxRecDepth 100000
def modeK (f : Nat) : Sim.Mode := if [96, 146, 92].any (Nat.beq f) then .pure else .inl
def fgt (n : Nat) (l : List Nat) : List Hint := ((List.range n).filter fun t => !l.any (Nat.beq t)).map .forget
def hintK (f r : Nat) : List Hint := if Nat.beq f 78 && Nat.beq r 4 then fgt 47 [1, 2, 3, 4, 5, 6, 7, 24] else if Nat.beq f 88 && Nat.beq r 13 then fgt 85 [2, 4, 6, 7, 25, 26, 27, 48] else if Nat.beq f 110 && Nat.beq r 6 then fgt 24 [6, 17] else []
noncomputable def maskK : T Nat := T.ofL [0, 0, 0, 8447, 37156895949095903, 10141205104057308130029428933119, 2199023256063, 70368748372479, 20287362572734631559706095650815, 302268348426997675852031, 31, 33570999, 9903520314283042336632125245, 1238544576575583538604408535, 13, 134220029, 16806963, 16806963, 1074250695, 31, 621387871313444601781551359, 1099511645235, 1152994072374280255, 311903009034531315871121535, 4629968972656280575, 1967, 140746078429183, 3, 1050567, 274877941703, 536875463, 37, 5, 5, 455, 1074250695, 31, 19, 31, 33571891, 2361480479010367472127, 31, 70368744671581, 2443202799995978587, 7, 21, 148130604676871287, 7, 4988330310758882742396517831, 526323, 2097727, 79753689254629201018078187145531874751, 2013, 41277, 5, 19, 991085, 1967, 21, 2053, 16627, 144115188143230963, 7, 539927, 43100138843878692889188078977275, 18463, 5, 71, 51, 21, 21, 21, 4258301, 269949, 1180591905516693095151, 9007199254745075, 115, 263155, 274961800959, 504373101, 1005, 1005, 1073804019, 13, 5, 19, 31, 7, 516509679039057240061, 2161727821142061031, 93, 5, 16951, 16843387, 7, 123, 1053, 143, 23, 1048627, 65555, 137506063859, 7, 40569925718819870870043449556935, 65619, 499, 499, 4551, 42535296023574879666274036850519702559, 5, 409853, 247, 15757811, 2097271, 7, 10293942005424159, 283, 5, 5, 3, 2, 262155, 309485014433031087690088571, 72057662824513779, 11, 131091, 11, 11, 3, 3, 11, 3, 3, 3, 19, 19, 19, 27, 27, 134217851, 34359738491, 5, 2601219041339793240724100117168315, 524317, 35, 1267, 1, 1011, 2112603, 5, 13, 51, 18692247126259, 3, 71, 71, 19, 21, 17179886351, 8592039695, 35218731966215, 1333065575601045263, 33543, 21268317252094917911888073248812900111, 1217485249602318769183, 22997644815212700899627017342834150232570911, 277, 16661, 297507807884839260029, 45, 67111151, 281476117831623, 135583, 21, 23, 3, 19, 11, 11, 23, 1073743631, 23, 2100255, 23, 7, 23, 8796126577479, 23, 65991, 23, 33620239, 29, 23, 23, 23, 19, 23, 55, 199, 4, 77, 29, 19, 19, 51, 77, 134217971, 19, 71, 3, 19, 19, 7, 7, 8975, 17752527091, 4760446651788182471, 455, 262259, 5, 115, 16371, 558347847623, 17596514574653, 16467, 131091, 288231475663604767, 5, 5, 271, 4159, 5, 525, 268435699, 268435699, 21, 67117563, 21, 7, 34426851087, 3, 2335, 719, 11, 1308541460665868912602582107079, 5, 23, 2071, 4215, 7650443023, 34931228191, 34422785895, 23, 79, 1071, 8399, 5, 5, 9293, 2282260723, 559219, 4197407, 2097267, 1, 8589966367, 15, 15, 19, 19, 19, 19, 55, 32781, 2247, 17095, 71, 19, 15, 15, 37, 5, 271, 7, 31, 29, 31, 5, 31, 5, 31, 5, 23, 5, 5, 127, 36028797622944255, 134251507, 0, 0, 8388631, 268435519, 19845877371674407892118675399, 268436991, 41945039, 8589935615, 5, 19, 5, 151124950824969577824443, 5, 4620693492560174023, 531, 8615104755, 0, 0, 0, 0, 0, 0, 0, 0, 0, 0, 0, 0, 0, 0, 0, 0, 0, 1968499, 21, 0, 0, 19038769266325171749831, 0, 0, 33556935, 37, 0, 36028814215610429, 5, 19, 7, 13944156602547416904679882248435, 2357355111577391, 37, 66483, 4740822234176969245149, 20809752255784536128213185993933019, 37, 604463053922502671605875, 1329390294675977461576849204132746743, 33554547, 153263127004225519, 0, 1053135, 0, 0, 141, 7, 262341, 131135, 70368878395647, 15, 3, 2111, 15, 16543, 0, 71, 13, 3, 7, 30893, 5, 0, 0, 0, 0, 0, 0]
noncomputable def E0 : Env := { P := Tryz.prog, mode := modeK, hint := hintK, eqTypes := [32, 67, 130], fns := fun f => Nat.blt f 382 }
-- 198 playpen/alu.Binary
-- 364 (*playpen/run.Machine).take
-- 354 (*playpen/run.Machine).Go
-- 6 playpen/playpenlaw27.awake
-- 999999 playpen/playpenlaw27.TapeNames
-- 96 playpen/isa.Info
-- 146 playpen/isa.rows
-- 92 playpen/run.acts
-- 237 math/bits.TrailingZeros64
end Go.Proofs.YtijfffbhhlmgmaaGreatDoor
end
section
namespace Go.Proofs.YtijfffbhhlmgmaaGreatDoor
open Go Go.Sim Go.Sim.Kr
set_option maxRecDepth 100000
set_option linter.unusedVariables false

def pM (ops : Array Oper) : Bool := match ops.toList with
  | [a, b] => (match a.op, b.op with | .ready g, .waits g' => !(Nat.beq g 0 && Nat.beq g' 0) | _, _ => true)
  | _ => true
theorem pM_mark {g : Nat} (h : pM (markOps g) = false) : g = 0 := by
  simp only [pM, markOps, Bool.not_eq_false', Bool.and_eq_true] at h
  exact Nat.eq_of_beq_eq_true h.1
theorem mok0 : MOk E0 pM where
  eq := by
    have h : (E0.eqTypes.all fun t => !Tryz.prog.stoodInHeld t && !Tryz.prog.eqGuardType Tryz.prog.depth t) = true := by kernel_rfl
    intro t ht
    have := List.all_eq_true.1 h t (by simpa using ht)
    have h2 : Tryz.prog.stoodInHeld t = false ∧ Tryz.prog.eqGuardType Tryz.prog.depth t = false := by simpa using this
    exact h2
  fn := ⟨by
    intro g F hg hF
    exact absurd hg Bool.false_ne_true, by
    have h : (Tryz.prog.funcs.toList.all fun fn => match fn.body with | none => true | some c => goodCode pM c && !(fn.name == "runtime.NumGoroutine")) = true := by kernel_rfl
    intro f fn c hf h1 h2
    have := List.all_eq_true.1 h fn (Array.mem_toList_iff.2 (Array.mem_of_getElem? h1))
    rw [h2] at this
    simpa using this⟩
  kn := by intro f F hF; cases hF
  ki := by intro f F hF; cases hF
def Cw : Cl := { ord := allocFirst, keep := fun _ => true }
noncomputable def K0 : KC := { E := E0, ord := allocFirst, mask := fun f => T.get 0 maskK f, kn := fun _ => none }
theorem k0 : KOk K0 Cw := kok_none fun _ => rfl
def tz : List (Nat × Nat) := [(64, 6), (65, 0)]
theorem tz64 (h : Heap) : bodyV E0 (evG E0 0 20) 237 [.int .u64 (Int.ofNat 64)] h = some (.int .i64 (Int.ofNat 6), h) := by kernel_rfl
theorem tz65 (h : Heap) : bodyV E0 (evG E0 0 20) 237 [.int .u64 (Int.ofNat 65)] h = some (.int .i64 (Int.ofNat 0), h) := by kernel_rfl
theorem tzAll : ∀ x ∈ tz, ∀ h, bodyV E0 (evG E0 0 20) 237 [.int .u64 (Int.ofNat x.1)] h = some (.int .i64 (Int.ofNat x.2), h) := by
  intro x hx h
  simp only [tz, List.mem_cons, List.not_mem_nil, or_false] at hx
  rcases hx with rfl | rfl
  · exact tz64 h
  · exact tz65 h
noncomputable def Ea : Env := withV E0 237 (tabV tz)
noncomputable def Ka : KC := withG K0 237 (tabG tz) Ea
theorem ka : KOk Ka Cw := withG_ok k0 237 (tabG_ok tz)
theorem ma : MOk Ea pM := withV_mok mok0 rfl ⟨Tryz.f237, Tryz.f237.body.getD .skip, Tryz.func237, by kernel_rfl, by simp [Tryz.f237]⟩ (tab_known (g := 0) (n := 20) rfl mok0.eq mok0.fn mok0.kn mok0.ki tzAll)
noncomputable def Eb : Env := withP Ea Cw 3000 [146]
noncomputable def Kb : KC := withPF Ka 3000 [146] Eb
theorem kb : KOk Kb Cw := withPF_ok ka 3000 [146] (by
  intro g hg
  simp only [List.mem_cons, List.not_mem_nil, or_false] at hg
  subst hg
  exact ⟨rfl, rfl⟩)
theorem mb : MOk Eb pM := withP_mok ma (fun _ _ => rfl) (by
    intro x hx
    simp only [List.mem_cons, List.not_mem_nil, or_false] at hx
    subst hx
    exact ⟨Tryz.f146, Tryz.f146.body.getD .skip, Tryz.func146, by kernel_rfl, by simp [Tryz.f146]⟩)
noncomputable def Ec : Env := withP Eb Cw 3000 [96, 92]
noncomputable def Kc : KC := withPF Kb 3000 [96, 92] Ec
theorem kc : KOk Kc Cw := withPF_ok kb 3000 [96, 92] (by
  intro g hg
  simp only [List.mem_cons, List.not_mem_nil, or_false] at hg
  rcases hg with rfl | rfl <;> exact ⟨rfl, rfl⟩)
theorem mc : MOk Ec pM := withP_mok mb (fun _ _ => rfl) (by
    intro x hx
    simp only [List.mem_cons, List.not_mem_nil, or_false] at hx
    rcases hx with rfl | rfl
    · exact ⟨Tryz.f96, Tryz.f96.body.getD .skip, Tryz.func96, by kernel_rfl, by simp [Tryz.f96]⟩
    · exact ⟨Tryz.f92, Tryz.f92.body.getD .skip, Tryz.func92, by kernel_rfl, by simp [Tryz.f92]⟩)
end Go.Proofs.YtijfffbhhlmgmaaGreatDoor
end
section
namespace Go.Proofs.YtijfffbhhlmgmaaGreatDoor
open Go Go.Sim Go.Sim.Kr
set_option maxRecDepth 1000000
set_option linter.unusedVariables false
noncomputable def E1 : Env := withC Ec Cw 3000 [198]
noncomputable def K1 : KC := withF Kc 3000 [198] E1
theorem k1 : KOk K1 Cw := withF_ok kc 3000 [198]
theorem m1 : MOk E1 pM := withC_mok mc (fun _ _ => rfl) (by
    intro x hx
    simp only [List.mem_cons, List.not_mem_nil, or_false] at hx
    subst hx
    exact ⟨Tryz.f198, Tryz.f198.body.getD .skip, Tryz.func198, by kernel_rfl, by simp [Tryz.f198]⟩)
noncomputable def E2 : Env := withC E1 Cw 3000 [364]
noncomputable def K2 : KC := withF K1 3000 [364] E2
theorem k2 : KOk K2 Cw := withF_ok k1 3000 [364]
theorem m2 : MOk E2 pM := withC_mok m1 (fun _ _ => rfl) (by
    intro x hx
    simp only [List.mem_cons, List.not_mem_nil, or_false] at hx
    subst hx
    exact ⟨Tryz.f364, Tryz.f364.body.getD .skip, Tryz.func364, by kernel_rfl, by simp [Tryz.f364]⟩)
noncomputable def E3 : Env := withC E2 Cw 3000 [354]
noncomputable def K3 : KC := withF K2 3000 [354] E3
theorem k3 : KOk K3 Cw := withF_ok k2 3000 [354]
theorem m3 : MOk E3 pM := withC_mok m2 (fun _ _ => rfl) (by
    intro x hx
    simp only [List.mem_cons, List.not_mem_nil, or_false] at hx
    subst hx
    exact ⟨Tryz.f354, Tryz.f354.body.getD .skip, Tryz.func354, by kernel_rfl, by simp [Tryz.f354]⟩)
end Go.Proofs.YtijfffbhhlmgmaaGreatDoor
end
