/-
  The settings of the machine for closed laws. Printed by program.
  The settings of the machine for closed laws, and that they are sound. Printed by program.
  The lines of a table: what a function of one list answers. Printed by program.
-/
import Derived.Test.YtpciiciljkfblabGreatDoorProg
import Derived.Test.YtpciiciljkfblabGreatDoorMg
import Derived.KernelRfl
import Derived.Test.YtpciiciljkfblabGreatDoorMh
import Derived.WalkKit
import Derived.ProofKit
section
namespace Go.Proofs.YtpciiciljkfblabGreatDoor
open Go Go.Sim Go.Sim.Kr
set_option maxRecDepth 100000
def modeK (f : Nat) : Sim.Mode := if [122, 174, 112].any (Nat.beq f) then .pure else .inl
def fgt (n : Nat) (l : List Nat) : List Hint := ((List.range n).filter fun t => !l.any (Nat.beq t)).map .forget
def hintK (f r : Nat) : List Hint := if Nat.beq f 97 && Nat.beq r 4 then fgt 47 [1, 2, 3, 4, 5, 6, 7, 24] else if Nat.beq f 108 && Nat.beq r 13 then fgt 85 [2, 4, 6, 7, 25, 26, 27, 48] else if Nat.beq f 136 && Nat.beq r 6 then fgt 24 [6, 17] else []
noncomputable def maskK : T Nat := T.ofL [0, 0, 0, 332306998946833449582643890989676287, 9903520314283042336632125245, 2199023256063, 70368748372479, 4629968972656280575, 1238544576575583538604408535, 33570999, 20287362572734631559706095650815, 4427286131684703077743, 5, 1361129467703560899204430999202855714749, 140737488357373, 140746078429183, 3, 1050567, 274877941703, 536875463, 37, 13, 134220029, 70368744671581, 2443202799995978587, 5, 455, 621387871313444601781551359, 1967, 16806963, 16806963, 1074250695, 31, 3, 1005, 3, 128849027115, 13, 2053, 16806963, 1005, 19, 563, 13, 5, 8589936669, 37, 148130604676871287, 7, 4988330310758882742396517831, 526323, 2097727, 79753689254629201018078187145531874751, 2013, 41277, 5, 19, 991085, 1967, 21, 7, 539927, 43100138843878692889188078977275, 16627, 144115188143230963, 31, 7, 21, 1074250695, 31, 499, 3, 3, 983083, 141252884430891, 21, 499, 19, 253, 563, 262195, 237, 13, 3613, 35184908959773, 18463, 5, 71, 51, 21, 21, 4258301, 269949, 1180591905516693095151, 9007199254745075, 115, 263155, 274961800959, 504373101, 1005, 1073804019, 13, 5, 19, 31, 7, 7, 123, 516509679039057240061, 2161727821142061031, 93, 5, 16951, 16843387, 71, 1005, 11, 71, 19, 253, 563, 5, 1053, 143, 23, 1048627, 65555, 137506063859, 7, 40569925718819870870043449556935, 65619, 499, 4551, 42535296023574879666274036850519702559, 5, 1267, 409853, 247, 15757811, 2097271, 7, 10293942005424159, 283, 5, 5, 3, 2, 262155, 309485014433031087690088571, 72057662824513779, 11, 131091, 11, 11, 3, 3, 11, 3, 3, 3, 19, 19, 19, 27, 27, 134217851, 34359738491, 5, 2601219041339793240724100117168315, 524317, 35, 499, 19, 253, 1, 1011, 2112603, 5, 13, 51, 18692247126259, 3, 71, 21, 17179886351, 8592039695, 35218731966215, 1333065575601045263, 33543, 21268317252094917911888073248812900111, 1217485249602318769183, 22997644815212700899627017342834150232570911, 277, 16661, 297507807884839260029, 45, 67111151, 281476117831623, 135583, 21, 23, 3, 19, 11, 11, 23, 1073743631, 23, 2100255, 23, 7, 23, 8796126577479, 23, 65991, 23, 33620239, 29, 23, 23, 23, 19, 23, 55, 199, 4, 77, 29, 19, 19, 51, 77, 134217971, 19, 71, 3, 19, 19, 7, 7, 8975, 17752527091, 4760446651788182471, 455, 262259, 5, 71, 115, 16371, 558347847623, 17596514574653, 16467, 131091, 288231475663604767, 5, 5, 271, 4159, 5, 525, 268435699, 268435699, 21, 67117563, 21, 7, 34426851087, 3, 2335, 719, 11, 1308541460665868912602582107079, 5, 23, 2071, 4215, 7650443023, 34931228191, 34422785895, 23, 79, 1071, 8399, 5, 5, 9293, 2282260723, 559219, 4197407, 2097267, 1, 8589966367, 15, 15, 19, 19, 19, 19, 55, 32781, 2247, 17095, 71, 19, 15, 15, 37, 5, 271, 7, 31, 29, 31, 5, 31, 5, 31, 5, 23, 5, 5, 127, 36028797622944255, 134251507, 0, 0, 8388631, 268435519, 19845877371674407892118675399, 268436991, 41945039, 8589935615, 5, 19, 5, 151124950824969577824443, 5, 4620693492560174023, 531, 8615104755, 0, 0, 0, 0, 0, 0, 0, 0, 0, 0, 0, 0, 0, 0, 0, 0, 0, 1968499, 21, 0, 0, 19038769266325171749831, 0, 0, 33556935, 37, 0, 36028814215610429, 5, 19, 7, 13944156602547416904679882248435, 2357355111577391, 37, 66483, 4740822234176969245149, 20809752255784536128213185993933019, 37, 604463053922502671605875, 1329390294675977461576849204132746743, 33554547, 153263127004225519, 0, 1053135, 37, 0, 141, 7, 262341, 131135, 70368878395647, 15, 3, 2111, 15, 16543, 0, 71, 13, 3, 7, 30893, 5, 0, 0, 0, 0, 0]
noncomputable def E0 : Env := { P := Tryz.prog, mode := modeK, hint := hintK, eqTypes := [53, 80, 147], fns := fun f => Nat.blt f 408 }
-- 224 playpen/alu.Binary
-- 391 (*playpen/run.Machine).take
-- 381 (*playpen/run.Machine).Go
-- 5 playpen/playpenlaw27.awake
-- 3 playpen/playpenlaw27.TapeNames
-- 122 playpen/isa.Info
-- 174 playpen/isa.rows
-- 112 playpen/run.acts
-- 264 math/bits.TrailingZeros64
end Go.Proofs.YtpciiciljkfblabGreatDoor
end
section
namespace Go.Proofs.YtpciiciljkfblabGreatDoor
open Go Go.Sim Go.Sim.Kr
set_option maxRecDepth 100000
set_option linter.unusedVariables false

def pM (ops : Array Oper) : Bool := match ops.toList with
  | [a, b] => (match a.op, b.op with | .ready g, .waits g' => !(Nat.beq g 0 && Nat.beq g' 0) | _, _ => true)
  | _ => true
theorem pM_mark {g : Nat} (h : pM (markOps g) = false) : g = 0 := by
  simp only [pM, markOps, Bool.not_eq_false', Bool.and_eq_true] at h
  exact Nat.eq_of_beq_eq_true h.1
theorem mok0 : MOk E0 pM where
  eq := by
    have h : (E0.eqTypes.all fun t => !Tryz.prog.stoodInHeld t && !Tryz.prog.eqGuardType Tryz.prog.depth t) = true := by kernel_rfl
    intro t ht
    have := List.all_eq_true.1 h t (by simpa using ht)
    have h2 : Tryz.prog.stoodInHeld t = false ∧ Tryz.prog.eqGuardType Tryz.prog.depth t = false := by simpa using this
    exact h2
  fn := ⟨by
    intro g F hg hF
    exact absurd hg Bool.false_ne_true, by
    have h : (Tryz.prog.funcs.toList.all fun fn => match fn.body with | none => true | some c => goodCode pM c && !(fn.name == "runtime.NumGoroutine")) = true := by kernel_rfl
    intro f fn c hf h1 h2
    have := List.all_eq_true.1 h fn (Array.mem_toList_iff.2 (Array.mem_of_getElem? h1))
    rw [h2] at this
    simpa using this⟩
  kn := by intro f F hF; cases hF
  ki := by intro f F hF; cases hF
def Cw : Cl := { ord := allocFirst, keep := fun _ => true }
noncomputable def K0 : KC := { E := E0, ord := allocFirst, mask := fun f => T.get 0 maskK f, kn := fun _ => none }
theorem k0 : KOk K0 Cw := kok_none fun _ => rfl
def tz : List (Nat × Nat) := [(64, 6), (65, 0)]
theorem tz64 (h : Heap) : bodyV E0 (evG E0 0 20) 264 [.int .u64 (Int.ofNat 64)] h = some (.int .i64 (Int.ofNat 6), h) := by kernel_rfl
theorem tz65 (h : Heap) : bodyV E0 (evG E0 0 20) 264 [.int .u64 (Int.ofNat 65)] h = some (.int .i64 (Int.ofNat 0), h) := by kernel_rfl
theorem tzAll : ∀ x ∈ tz, ∀ h, bodyV E0 (evG E0 0 20) 264 [.int .u64 (Int.ofNat x.1)] h = some (.int .i64 (Int.ofNat x.2), h) := by
  intro x hx h
  simp only [tz, List.mem_cons, List.not_mem_nil, or_false] at hx
  rcases hx with rfl | rfl
  · exact tz64 h
  · exact tz65 h
noncomputable def Ea : Env := withV E0 264 (tabV tz)
noncomputable def Ka : KC := withG K0 264 (tabG tz) Ea
theorem ka : KOk Ka Cw := withG_ok k0 264 (tabG_ok tz)
theorem ma : MOk Ea pM := withV_mok mok0 rfl ⟨Tryz.f264, Tryz.f264.body.getD .skip, Tryz.func264, by kernel_rfl, by simp [Tryz.f264]⟩ (tab_known (g := 0) (n := 20) rfl mok0.eq mok0.fn mok0.kn mok0.ki tzAll)
noncomputable def Eb : Env := withP Ea Cw 3000 [174]
noncomputable def Kb : KC := withPF Ka 3000 [174] Eb
theorem kb : KOk Kb Cw := withPF_ok ka 3000 [174] (by
  intro g hg
  simp only [List.mem_cons, List.not_mem_nil, or_false] at hg
  subst hg
  exact ⟨rfl, rfl⟩)
theorem mb : MOk Eb pM := withP_mok ma (fun _ _ => rfl) (by
    intro x hx
    simp only [List.mem_cons, List.not_mem_nil, or_false] at hx
    subst hx
    exact ⟨Tryz.f174, Tryz.f174.body.getD .skip, Tryz.func174, by kernel_rfl, by simp [Tryz.f174]⟩)
noncomputable def Ec : Env := withP Eb Cw 3000 [122, 112]
noncomputable def Kc : KC := withPF Kb 3000 [122, 112] Ec
theorem kc : KOk Kc Cw := withPF_ok kb 3000 [122, 112] (by
  intro g hg
  simp only [List.mem_cons, List.not_mem_nil, or_false] at hg
  rcases hg with rfl | rfl <;> exact ⟨rfl, rfl⟩)
theorem mc : MOk Ec pM := withP_mok mb (fun _ _ => rfl) (by
    intro x hx
    simp only [List.mem_cons, List.not_mem_nil, or_false] at hx
    rcases hx with rfl | rfl
    · exact ⟨Tryz.f122, Tryz.f122.body.getD .skip, Tryz.func122, by kernel_rfl, by simp [Tryz.f122]⟩
    · exact ⟨Tryz.f112, Tryz.f112.body.getD .skip, Tryz.func112, by kernel_rfl, by simp [Tryz.f112]⟩)
end Go.Proofs.YtpciiciljkfblabGreatDoor
end
section
namespace Go.Proofs.YtpciiciljkfblabGreatDoor
open Go Go.Sim Go.Sim.Kr
set_option maxRecDepth 1000000
set_option linter.unusedVariables false
def ln0 : SEnt := { off := nat_lit 0, len := nat_lit 7, ep := nat_lit 0, q1 := nat_lit 2, q2 := false, rest := [.int .u32 (Int.ofNat (nat_lit 0)), .int .u32 (Int.ofNat (nat_lit 6))], cells := [.int .u8 (Int.ofNat (nat_lit 3)), .int .u32 (Int.ofNat (nat_lit 8)), .int .u8 (Int.ofNat (nat_lit 9)), .int .u32 (Int.ofNat (nat_lit 12)), .int .u8 (Int.ofNat (nat_lit 31)), .int .u32 (Int.ofNat (nat_lit 0)), .int .u8 (Int.ofNat (nat_lit 12)), .int .u32 (Int.ofNat (nat_lit 0)), .int .u8 (Int.ofNat (nat_lit 8)), .int .u32 (Int.ofNat (nat_lit 4294967294)), .int .u8 (Int.ofNat (nat_lit 5)), .int .u32 (Int.ofNat (nat_lit 0)), .int .u8 (Int.ofNat (nat_lit 4)), .int .u32 (Int.ofNat (nat_lit 8))], m := nat_lit 14, esz := nat_lit 2, fl := true, pl := true, v := .tuple [.agg [.int .u32 (Int.ofNat (nat_lit 0)), .int .u32 (Int.ofNat (nat_lit 1)), .int .u8 (Int.ofNat (nat_lit 1)), .int .u8 (Int.ofNat (nat_lit 3)), .int .u32 (Int.ofNat (nat_lit 8)), .int .u32 (Int.ofNat (nat_lit 0))], .int .i64 (Int.ofNat (nat_lit 0))] }
def ln1 : SEnt := { off := nat_lit 0, len := nat_lit 7, ep := nat_lit 0, q1 := nat_lit 2, q2 := false, rest := [.int .u32 (Int.ofNat (nat_lit 1)), .int .u32 (Int.ofNat (nat_lit 6))], cells := [.int .u8 (Int.ofNat (nat_lit 3)), .int .u32 (Int.ofNat (nat_lit 8)), .int .u8 (Int.ofNat (nat_lit 9)), .int .u32 (Int.ofNat (nat_lit 12)), .int .u8 (Int.ofNat (nat_lit 31)), .int .u32 (Int.ofNat (nat_lit 0)), .int .u8 (Int.ofNat (nat_lit 12)), .int .u32 (Int.ofNat (nat_lit 0)), .int .u8 (Int.ofNat (nat_lit 8)), .int .u32 (Int.ofNat (nat_lit 4294967294)), .int .u8 (Int.ofNat (nat_lit 5)), .int .u32 (Int.ofNat (nat_lit 0)), .int .u8 (Int.ofNat (nat_lit 4)), .int .u32 (Int.ofNat (nat_lit 8))], m := nat_lit 14, esz := nat_lit 2, fl := true, pl := true, v := .tuple [.agg [.int .u32 (Int.ofNat (nat_lit 1)), .int .u32 (Int.ofNat (nat_lit 2)), .int .u8 (Int.ofNat (nat_lit 12)), .int .u8 (Int.ofNat (nat_lit 31)), .int .u32 (Int.ofNat (nat_lit 12)), .int .u32 (Int.ofNat (nat_lit 0))], .int .i64 (Int.ofNat (nat_lit 0))] }
def ln2 : SEnt := { off := nat_lit 0, len := nat_lit 7, ep := nat_lit 0, q1 := nat_lit 2, q2 := false, rest := [.int .u32 (Int.ofNat (nat_lit 3)), .int .u32 (Int.ofNat (nat_lit 6))], cells := [.int .u8 (Int.ofNat (nat_lit 3)), .int .u32 (Int.ofNat (nat_lit 8)), .int .u8 (Int.ofNat (nat_lit 9)), .int .u32 (Int.ofNat (nat_lit 12)), .int .u8 (Int.ofNat (nat_lit 31)), .int .u32 (Int.ofNat (nat_lit 0)), .int .u8 (Int.ofNat (nat_lit 12)), .int .u32 (Int.ofNat (nat_lit 0)), .int .u8 (Int.ofNat (nat_lit 8)), .int .u32 (Int.ofNat (nat_lit 4294967294)), .int .u8 (Int.ofNat (nat_lit 5)), .int .u32 (Int.ofNat (nat_lit 0)), .int .u8 (Int.ofNat (nat_lit 4)), .int .u32 (Int.ofNat (nat_lit 8))], m := nat_lit 14, esz := nat_lit 2, fl := true, pl := true, v := .tuple [.agg [.int .u32 (Int.ofNat (nat_lit 3)), .int .u32 (Int.ofNat (nat_lit 1)), .int .u8 (Int.ofNat (nat_lit 1)), .int .u8 (Int.ofNat (nat_lit 12)), .int .u32 (Int.ofNat (nat_lit 0)), .int .u32 (Int.ofNat (nat_lit 0))], .int .i64 (Int.ofNat (nat_lit 0))] }
def ln3 : SEnt := { off := nat_lit 0, len := nat_lit 7, ep := nat_lit 0, q1 := nat_lit 2, q2 := false, rest := [.int .u32 (Int.ofNat (nat_lit 4)), .int .u32 (Int.ofNat (nat_lit 6))], cells := [.int .u8 (Int.ofNat (nat_lit 3)), .int .u32 (Int.ofNat (nat_lit 8)), .int .u8 (Int.ofNat (nat_lit 9)), .int .u32 (Int.ofNat (nat_lit 12)), .int .u8 (Int.ofNat (nat_lit 31)), .int .u32 (Int.ofNat (nat_lit 0)), .int .u8 (Int.ofNat (nat_lit 12)), .int .u32 (Int.ofNat (nat_lit 0)), .int .u8 (Int.ofNat (nat_lit 8)), .int .u32 (Int.ofNat (nat_lit 4294967294)), .int .u8 (Int.ofNat (nat_lit 5)), .int .u32 (Int.ofNat (nat_lit 0)), .int .u8 (Int.ofNat (nat_lit 4)), .int .u32 (Int.ofNat (nat_lit 8))], m := nat_lit 14, esz := nat_lit 2, fl := true, pl := true, v := .tuple [.agg [.int .u32 (Int.ofNat (nat_lit 4)), .int .u32 (Int.ofNat (nat_lit 2)), .int .u8 (Int.ofNat (nat_lit 8)), .int .u8 (Int.ofNat (nat_lit 0)), .int .u32 (Int.ofNat (nat_lit 4294967294)), .int .u32 (Int.ofNat (nat_lit 0))], .int .i64 (Int.ofNat (nat_lit 0))] }
def ln4 : SEnt := { off := nat_lit 0, len := nat_lit 7, ep := nat_lit 0, q1 := nat_lit 2, q2 := false, rest := [.int .u32 (Int.ofNat (nat_lit 6)), .int .u32 (Int.ofNat (nat_lit 7))], cells := [.int .u8 (Int.ofNat (nat_lit 3)), .int .u32 (Int.ofNat (nat_lit 8)), .int .u8 (Int.ofNat (nat_lit 9)), .int .u32 (Int.ofNat (nat_lit 12)), .int .u8 (Int.ofNat (nat_lit 31)), .int .u32 (Int.ofNat (nat_lit 0)), .int .u8 (Int.ofNat (nat_lit 12)), .int .u32 (Int.ofNat (nat_lit 0)), .int .u8 (Int.ofNat (nat_lit 8)), .int .u32 (Int.ofNat (nat_lit 4294967294)), .int .u8 (Int.ofNat (nat_lit 5)), .int .u32 (Int.ofNat (nat_lit 0)), .int .u8 (Int.ofNat (nat_lit 4)), .int .u32 (Int.ofNat (nat_lit 8))], m := nat_lit 14, esz := nat_lit 2, fl := true, pl := true, v := .tuple [.agg [.int .u32 (Int.ofNat (nat_lit 6)), .int .u32 (Int.ofNat (nat_lit 1)), .int .u8 (Int.ofNat (nat_lit 1)), .int .u8 (Int.ofNat (nat_lit 4)), .int .u32 (Int.ofNat (nat_lit 8)), .int .u32 (Int.ofNat (nat_lit 0))], .int .i64 (Int.ofNat (nat_lit 0))] }
end Go.Proofs.YtpciiciljkfblabGreatDoor
end
