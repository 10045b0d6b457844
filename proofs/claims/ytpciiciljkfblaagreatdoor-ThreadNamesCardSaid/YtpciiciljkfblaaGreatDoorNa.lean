/-
  The settings of the machine for closed laws. Printed by program.
  The settings of the machine for closed laws, and that they are sound. Printed by program.
  The lines of the tables: what functions of one list answer. Printed by program.
-/
import Derived.Test.YtpciiciljkfblaaGreatDoorProg
import Derived.Test.YtpciiciljkfblaaGreatDoorMg
import Derived.KernelRfl
import Derived.Test.YtpciiciljkfblaaGreatDoorMh
import Derived.WalkKit
import Derived.ProofKit
section
namespace Go.Proofs.YtpciiciljkfblaaGreatDoor
open Go Go.Sim Go.Sim.Kr
set_option maxRecDepth 100000
def modeK (f : Nat) : Sim.Mode := if [87, 157].any (Nat.beq f) then .pure else .inl
def fgt (n : Nat) (l : List Nat) : List Hint := ((List.range n).filter fun t => !l.any (Nat.beq t)).map .forget
def hintK (f r : Nat) : List Hint := if Nat.beq f 21 && Nat.beq r 13 then fgt 85 [2, 4, 6, 7, 25, 26, 27, 48] else if Nat.beq f 33 && Nat.beq r 6 then fgt 24 [6, 17] else if Nat.beq f 53 && Nat.beq r 4 then fgt 47 [1, 2, 3, 4, 5, 6, 7, 24] else []
noncomputable def maskK : T Nat := T.ofL [0, 0, 0, 22837356885519485242964813953425151507004644179, 140746078429183, 3, 16627, 536871027, 33556935, 19038769266325171749831, 37, 37, 1101667628519, 137438953533, 148130604676871287, 7, 4988330310758882742396517831, 526323, 2097727, 79753689254629201018078187145531874751, 2013, 516509679039057240061, 2161727821142061031, 5, 2357355111577391, 283, 19, 7, 539927, 13944156602547416904679882248435, 21, 37, 7, 409853, 70368744671581, 1426107548613745501753118818299, 35, 2361331895406897922111, 571, 8205, 18463, 5, 71, 51, 21, 21, 21, 4258301, 269949, 1180591905516693095151, 9007199254745075, 115, 263155, 274961800959, 504373101, 1005, 1005, 1073804019, 13, 5, 247, 15757811, 2097271, 41277, 5, 10293942005424159, 93, 5, 2601219041339793240724100117168315, 19, 524317, 7, 5, 77, 35, 66483, 4740822234176969245149, 20809752255784536128213185993933019, 5, 21, 297507807884839260029, 45, 243, 34426851087, 4628592124315578319, 31, 5, 1053, 143, 23, 1048627, 65555, 137506063859, 7, 40569925718819870870043449556935, 65619, 499, 499, 4551, 2053, 67111151, 281476117831623, 135583, 5, 19, 31, 23, 3, 19, 11, 11, 23, 1073743631, 23, 2100255, 23, 23, 8796126577479, 23, 65991, 23, 33620239, 29, 23, 23, 23, 19, 23, 55, 199, 4, 455, 262259, 51, 19, 23, 2335, 77, 1267, 37, 7650443023, 3, 604463053922502671605875, 36028814215610429, 71, 1329390294675977461576849204132746743, 5, 525, 268435699, 268435699, 21, 67117563, 21, 2097267, 7, 1, 33571891, 1, 1011, 2112603, 5, 13, 51, 18692247126259, 3, 71, 71, 19, 21, 42535296023574879666274036850519702559, 5, 4760446651788182471, 19, 19, 7, 7, 719, 11, 1308541460665868912602582107079, 4215, 2071, 8589966367, 15, 32781, 19, 33554547, 79, 8975, 17752527091, 271, 7, 31, 29, 31, 5, 31, 5, 31, 5, 23, 5, 5, 127, 36028797622944255, 115, 16371, 558347847623, 17596514574653, 16467, 131091, 17179886351, 8592039695, 35218731966215, 1333065575601045263, 33543, 21268317252094917911888073248812900111, 1217485249602318769183, 22997644815212700899627017342834150232570911, 277, 16661, 2282260723, 559219, 15, 19, 19, 19, 19, 55, 19, 23, 34422785895, 17095, 1071, 8399, 5, 5, 9293, 8388631, 268435519, 19845877371674407892118675399, 268436991, 41945039, 8589935615, 5, 288231475663604767, 5, 5, 271, 4159, 5, 37, 2247, 134251507, 71, 15, 15, 151124950824969577824443, 4197407, 0, 0, 19, 5, 4620693492560174023, 531, 8615104755, 5, 0, 0, 0, 0, 0, 0, 0, 0, 0, 0, 0, 0, 0, 0, 0, 0, 0, 1968499, 21, 0, 0, 0, 30893, 5, 71, 13, 3, 7, 0, 0, 0, 0, 0]
noncomputable def E0 : Env := { P := Tryz.prog, mode := modeK, hint := hintK, eqTypes := [59, 100], fns := fun f => Nat.blt f 299 }
-- 129 playpen/alu.Binary
-- 999999 (*playpen/run.Machine).take
-- 999999 (*playpen/run.Machine).Go
-- 999999 playpen/playpenlaw27.awake
-- 999999 playpen/playpenlaw27.TapeNames
-- 87 playpen/isa.Info
-- 157 playpen/isa.rows
-- 999999 playpen/run.acts
-- 152 math/bits.TrailingZeros64
end Go.Proofs.YtpciiciljkfblaaGreatDoor
end
section
namespace Go.Proofs.YtpciiciljkfblaaGreatDoor
open Go Go.Sim Go.Sim.Kr
set_option maxRecDepth 100000
set_option linter.unusedVariables false

def pM (ops : Array Oper) : Bool := match ops.toList with
  | [a, b] => (match a.op, b.op with | .ready g, .waits g' => !(Nat.beq g 0 && Nat.beq g' 0) | _, _ => true)
  | _ => true
theorem pM_mark {g : Nat} (h : pM (markOps g) = false) : g = 0 := by
  simp only [pM, markOps, Bool.not_eq_false', Bool.and_eq_true] at h
  exact Nat.eq_of_beq_eq_true h.1
theorem mok0 : MOk E0 pM where
  eq := by
    have h : (E0.eqTypes.all fun t => !Tryz.prog.stoodInHeld t && !Tryz.prog.eqGuardType Tryz.prog.depth t) = true := by kernel_rfl
    intro t ht
    have := List.all_eq_true.1 h t (by simpa using ht)
    have h2 : Tryz.prog.stoodInHeld t = false ∧ Tryz.prog.eqGuardType Tryz.prog.depth t = false := by simpa using this
    exact h2
  fn := ⟨by
    intro g F hg hF
    exact absurd hg Bool.false_ne_true, by
    have h : (Tryz.prog.funcs.toList.all fun fn => match fn.body with | none => true | some c => goodCode pM c && !(fn.name == "runtime.NumGoroutine")) = true := by kernel_rfl
    intro f fn c hf h1 h2
    have := List.all_eq_true.1 h fn (Array.mem_toList_iff.2 (Array.mem_of_getElem? h1))
    rw [h2] at this
    simpa using this⟩
  kn := by intro f F hF; cases hF
  ki := by intro f F hF; cases hF
def Cw : Cl := { ord := allocFirst, keep := fun _ => true }
noncomputable def K0 : KC := { E := E0, ord := allocFirst, mask := fun f => T.get 0 maskK f, kn := fun _ => none }
theorem k0 : KOk K0 Cw := kok_none fun _ => rfl
def tz : List (Nat × Nat) := [(4096, 12), (6144, 11), (6145, 0)]
theorem tz4096 (h : Heap) : bodyV E0 (evG E0 0 20) 152 [.int .u64 (Int.ofNat 4096)] h = some (.int .i64 (Int.ofNat 12), h) := by kernel_rfl
theorem tz6144 (h : Heap) : bodyV E0 (evG E0 0 20) 152 [.int .u64 (Int.ofNat 6144)] h = some (.int .i64 (Int.ofNat 11), h) := by kernel_rfl
theorem tz6145 (h : Heap) : bodyV E0 (evG E0 0 20) 152 [.int .u64 (Int.ofNat 6145)] h = some (.int .i64 (Int.ofNat 0), h) := by kernel_rfl
theorem tzAll : ∀ x ∈ tz, ∀ h, bodyV E0 (evG E0 0 20) 152 [.int .u64 (Int.ofNat x.1)] h = some (.int .i64 (Int.ofNat x.2), h) := by
  intro x hx h
  simp only [tz, List.mem_cons, List.not_mem_nil, or_false] at hx
  rcases hx with rfl | rfl | rfl
  · exact tz4096 h
  · exact tz6144 h
  · exact tz6145 h
noncomputable def Ea : Env := withV E0 152 (tabV tz)
noncomputable def Ka : KC := withG K0 152 (tabG tz) Ea
theorem ka : KOk Ka Cw := withG_ok k0 152 (tabG_ok tz)
theorem ma : MOk Ea pM := withV_mok mok0 rfl ⟨Tryz.f152, Tryz.f152.body.getD .skip, Tryz.func152, by kernel_rfl, by simp [Tryz.f152]⟩ (tab_known (g := 0) (n := 20) rfl mok0.eq mok0.fn mok0.kn mok0.ki tzAll)
noncomputable def Eb : Env := withP Ea Cw 3000 [157]
noncomputable def Kb : KC := withPF Ka 3000 [157] Eb
theorem kb : KOk Kb Cw := withPF_ok ka 3000 [157] (by
  intro g hg
  simp only [List.mem_cons, List.not_mem_nil, or_false] at hg
  subst hg
  exact ⟨rfl, rfl⟩)
theorem mb : MOk Eb pM := withP_mok ma (fun _ _ => rfl) (by
    intro x hx
    simp only [List.mem_cons, List.not_mem_nil, or_false] at hx
    subst hx
    exact ⟨Tryz.f157, Tryz.f157.body.getD .skip, Tryz.func157, by kernel_rfl, by simp [Tryz.f157]⟩)
noncomputable def Ec : Env := withP Eb Cw 3000 [87]
noncomputable def Kc : KC := withPF Kb 3000 [87] Ec
theorem kc : KOk Kc Cw := withPF_ok kb 3000 [87] (by
  intro g hg
  simp only [List.mem_cons, List.not_mem_nil, or_false] at hg
  subst hg
  exact ⟨rfl, rfl⟩)
theorem mc : MOk Ec pM := withP_mok mb (fun _ _ => rfl) (by
    intro x hx
    simp only [List.mem_cons, List.not_mem_nil, or_false] at hx
    subst hx
    exact ⟨Tryz.f87, Tryz.f87.body.getD .skip, Tryz.func87, by kernel_rfl, by simp [Tryz.f87]⟩)
noncomputable def Ec0 : Env := withC Ec Cw 3000 [129]
noncomputable def Kc0 : KC := withF Kc 3000 [129] Ec0
theorem kc0 : KOk Kc0 Cw := withF_ok kc 3000 [129]
theorem mc0 : MOk Ec0 pM := withC_mok mc (fun _ _ => rfl) (by
    intro x hx
    simp only [List.mem_cons, List.not_mem_nil, or_false] at hx
    subst hx
    exact ⟨Tryz.f129, Tryz.f129.body.getD .skip, Tryz.func129, by kernel_rfl, by simp [Tryz.f129]⟩)
end Go.Proofs.YtpciiciljkfblaaGreatDoor
end
section
namespace Go.Proofs.YtpciiciljkfblaaGreatDoor
open Go Go.Sim Go.Sim.Kr
set_option maxRecDepth 1000000
set_option linter.unusedVariables false
abbrev cs0 : List V := [.int .u8 (Int.ofNat (nat_lit 3)), .int .u32 (Int.ofNat (nat_lit 8)), .int .u8 (Int.ofNat (nat_lit 8)), .int .u32 (Int.ofNat (nat_lit 2)), .int .u8 (Int.ofNat (nat_lit 8)), .int .u32 (Int.ofNat (nat_lit 3)), .int .u8 (Int.ofNat (nat_lit 39)), .int .u32 (Int.ofNat (nat_lit 0)), .int .u8 (Int.ofNat (nat_lit 12)), .int .u32 (Int.ofNat (nat_lit 0)), .int .u8 (Int.ofNat (nat_lit 9)), .int .u32 (Int.ofNat (nat_lit 12)), .int .u8 (Int.ofNat (nat_lit 31)), .int .u32 (Int.ofNat (nat_lit 0)), .int .u8 (Int.ofNat (nat_lit 8)), .int .u32 (Int.ofNat (nat_lit 9)), .int .u8 (Int.ofNat (nat_lit 15)), .int .u32 (Int.ofNat (nat_lit 12)), .int .u8 (Int.ofNat (nat_lit 8)), .int .u32 (Int.ofNat (nat_lit 0)), .int .u8 (Int.ofNat (nat_lit 5)), .int .u32 (Int.ofNat (nat_lit 0)), .int .u8 (Int.ofNat (nat_lit 10)), .int .u32 (Int.ofNat (nat_lit 0)), .int .u8 (Int.ofNat (nat_lit 8)), .int .u32 (Int.ofNat (nat_lit 0)), .int .u8 (Int.ofNat (nat_lit 4)), .int .u32 (Int.ofNat (nat_lit 8))]
def ln0 : SEnt := { off := nat_lit 0, len := nat_lit 14, ep := nat_lit 0, q1 := nat_lit 2, q2 := false, rest := [.int .u32 (Int.ofNat (nat_lit 0)), .int .u32 (Int.ofNat (nat_lit 11))], cells := cs0, m := nat_lit 28, esz := nat_lit 2, fl := true, pl := true, v := .tuple [.agg [.int .u32 (Int.ofNat (nat_lit 0)), .int .u32 (Int.ofNat (nat_lit 1)), .int .u8 (Int.ofNat (nat_lit 1)), .int .u8 (Int.ofNat (nat_lit 3)), .int .u32 (Int.ofNat (nat_lit 8)), .int .u32 (Int.ofNat (nat_lit 0))], .int .i64 (Int.ofNat (nat_lit 0))] }
def ln1 : SEnt := { off := nat_lit 0, len := nat_lit 14, ep := nat_lit 0, q1 := nat_lit 2, q2 := false, rest := [.int .u32 (Int.ofNat (nat_lit 1)), .int .u32 (Int.ofNat (nat_lit 11))], cells := cs0, m := nat_lit 28, esz := nat_lit 2, fl := true, pl := true, v := .tuple [.agg [.int .u32 (Int.ofNat (nat_lit 1)), .int .u32 (Int.ofNat (nat_lit 4)), .int .u8 (Int.ofNat (nat_lit 7)), .int .u8 (Int.ofNat (nat_lit 0)), .int .u32 (Int.ofNat (nat_lit 5)), .int .u32 (Int.ofNat (nat_lit 0))], .int .i64 (Int.ofNat (nat_lit 0))] }
def ln2 : SEnt := { off := nat_lit 0, len := nat_lit 14, ep := nat_lit 0, q1 := nat_lit 2, q2 := false, rest := [.int .u32 (Int.ofNat (nat_lit 5)), .int .u32 (Int.ofNat (nat_lit 11))], cells := cs0, m := nat_lit 28, esz := nat_lit 2, fl := true, pl := true, v := .tuple [.agg [.int .u32 (Int.ofNat (nat_lit 5)), .int .u32 (Int.ofNat (nat_lit 2)), .int .u8 (Int.ofNat (nat_lit 12)), .int .u8 (Int.ofNat (nat_lit 31)), .int .u32 (Int.ofNat (nat_lit 12)), .int .u32 (Int.ofNat (nat_lit 0))], .int .i64 (Int.ofNat (nat_lit 0))] }
def ln3 : SEnt := { off := nat_lit 0, len := nat_lit 14, ep := nat_lit 0, q1 := nat_lit 2, q2 := false, rest := [.int .u32 (Int.ofNat (nat_lit 7)), .int .u32 (Int.ofNat (nat_lit 11))], cells := cs0, m := nat_lit 28, esz := nat_lit 2, fl := true, pl := true, v := .tuple [.agg [.int .u32 (Int.ofNat (nat_lit 7)), .int .u32 (Int.ofNat (nat_lit 2)), .int .u8 (Int.ofNat (nat_lit 6)), .int .u8 (Int.ofNat (nat_lit 15)), .int .u32 (Int.ofNat (nat_lit 9)), .int .u32 (Int.ofNat (nat_lit 12))], .int .i64 (Int.ofNat (nat_lit 0))] }
def ln4 : SEnt := { off := nat_lit 0, len := nat_lit 14, ep := nat_lit 0, q1 := nat_lit 2, q2 := false, rest := [.int .u32 (Int.ofNat (nat_lit 9)), .int .u32 (Int.ofNat (nat_lit 11))], cells := cs0, m := nat_lit 28, esz := nat_lit 2, fl := true, pl := true, v := .tuple [.agg [.int .u32 (Int.ofNat (nat_lit 9)), .int .u32 (Int.ofNat (nat_lit 2)), .int .u8 (Int.ofNat (nat_lit 8)), .int .u8 (Int.ofNat (nat_lit 0)), .int .u32 (Int.ofNat (nat_lit 0)), .int .u32 (Int.ofNat (nat_lit 0))], .int .i64 (Int.ofNat (nat_lit 0))] }
def ln5 : SEnt := { off := nat_lit 0, len := nat_lit 14, ep := nat_lit 0, q1 := nat_lit 2, q2 := false, rest := [.int .u32 (Int.ofNat (nat_lit 11)), .int .u32 (Int.ofNat (nat_lit 12))], cells := cs0, m := nat_lit 28, esz := nat_lit 2, fl := true, pl := true, v := .tuple [.agg [.int .u32 (Int.ofNat (nat_lit 11)), .int .u32 (Int.ofNat (nat_lit 1)), .int .u8 (Int.ofNat (nat_lit 1)), .int .u8 (Int.ofNat (nat_lit 10)), .int .u32 (Int.ofNat (nat_lit 0)), .int .u32 (Int.ofNat (nat_lit 0))], .int .i64 (Int.ofNat (nat_lit 0))] }
def ln6 : SEnt := { off := nat_lit 0, len := nat_lit 14, ep := nat_lit 0, q1 := nat_lit 2, q2 := false, rest := [.int .u32 (Int.ofNat (nat_lit 12)), .int .u32 (Int.ofNat (nat_lit 14))], cells := cs0, m := nat_lit 28, esz := nat_lit 2, fl := true, pl := true, v := .tuple [.agg [.int .u32 (Int.ofNat (nat_lit 12)), .int .u32 (Int.ofNat (nat_lit 1)), .int .u8 (Int.ofNat (nat_lit 1)), .int .u8 (Int.ofNat (nat_lit 8)), .int .u32 (Int.ofNat (nat_lit 0)), .int .u32 (Int.ofNat (nat_lit 0))], .int .i64 (Int.ofNat (nat_lit 0))] }
def ln7 : SEnt := { off := nat_lit 0, len := nat_lit 14, ep := nat_lit 0, q1 := nat_lit 2, q2 := false, rest := [.int .u32 (Int.ofNat (nat_lit 13)), .int .u32 (Int.ofNat (nat_lit 14))], cells := cs0, m := nat_lit 28, esz := nat_lit 2, fl := true, pl := true, v := .tuple [.agg [.int .u32 (Int.ofNat (nat_lit 13)), .int .u32 (Int.ofNat (nat_lit 1)), .int .u8 (Int.ofNat (nat_lit 1)), .int .u8 (Int.ofNat (nat_lit 4)), .int .u32 (Int.ofNat (nat_lit 8)), .int .u32 (Int.ofNat (nat_lit 0))], .int .i64 (Int.ofNat (nat_lit 0))] }
def ln8 : SEnt := { off := nat_lit 0, len := nat_lit 14, ep := nat_lit 0, q1 := nat_lit 2, q2 := false, rest := [.int .u32 (Int.ofNat (nat_lit 0)), .int .u32 (Int.ofNat (nat_lit 1)), .int .u8 (Int.ofNat (nat_lit 1))], cells := cs0, m := nat_lit 28, esz := nat_lit 2, fl := true, pl := true, v := .tuple [.agg [.int .u32 (Int.ofNat (nat_lit 0)), .int .u32 (Int.ofNat (nat_lit 1)), .int .u8 (Int.ofNat (nat_lit 1)), .int .u8 (Int.ofNat (nat_lit 3)), .int .u32 (Int.ofNat (nat_lit 8)), .int .u32 (Int.ofNat (nat_lit 0))], .bool true] }
def ln9 : SEnt := { off := nat_lit 0, len := nat_lit 14, ep := nat_lit 0, q1 := nat_lit 2, q2 := false, rest := [.int .u32 (Int.ofNat (nat_lit 1)), .int .u32 (Int.ofNat (nat_lit 5)), .int .u8 (Int.ofNat (nat_lit 7))], cells := cs0, m := nat_lit 28, esz := nat_lit 2, fl := true, pl := true, v := .tuple [.agg [.int .u32 (Int.ofNat (nat_lit 1)), .int .u32 (Int.ofNat (nat_lit 4)), .int .u8 (Int.ofNat (nat_lit 7)), .int .u8 (Int.ofNat (nat_lit 0)), .int .u32 (Int.ofNat (nat_lit 5)), .int .u32 (Int.ofNat (nat_lit 0))], .bool true] }
def ln10 : SEnt := { off := nat_lit 0, len := nat_lit 14, ep := nat_lit 0, q1 := nat_lit 2, q2 := false, rest := [.int .u32 (Int.ofNat (nat_lit 5)), .int .u32 (Int.ofNat (nat_lit 7)), .int .u8 (Int.ofNat (nat_lit 12))], cells := cs0, m := nat_lit 28, esz := nat_lit 2, fl := true, pl := true, v := .tuple [.agg [.int .u32 (Int.ofNat (nat_lit 5)), .int .u32 (Int.ofNat (nat_lit 2)), .int .u8 (Int.ofNat (nat_lit 12)), .int .u8 (Int.ofNat (nat_lit 31)), .int .u32 (Int.ofNat (nat_lit 12)), .int .u32 (Int.ofNat (nat_lit 0))], .bool true] }
def ln11 : SEnt := { off := nat_lit 0, len := nat_lit 14, ep := nat_lit 0, q1 := nat_lit 2, q2 := false, rest := [.int .u32 (Int.ofNat (nat_lit 7)), .int .u32 (Int.ofNat (nat_lit 9)), .int .u8 (Int.ofNat (nat_lit 6))], cells := cs0, m := nat_lit 28, esz := nat_lit 2, fl := true, pl := true, v := .tuple [.agg [.int .u32 (Int.ofNat (nat_lit 7)), .int .u32 (Int.ofNat (nat_lit 2)), .int .u8 (Int.ofNat (nat_lit 6)), .int .u8 (Int.ofNat (nat_lit 15)), .int .u32 (Int.ofNat (nat_lit 9)), .int .u32 (Int.ofNat (nat_lit 12))], .bool true] }
def ln12 : SEnt := { off := nat_lit 0, len := nat_lit 14, ep := nat_lit 0, q1 := nat_lit 2, q2 := false, rest := [.int .u32 (Int.ofNat (nat_lit 9)), .int .u32 (Int.ofNat (nat_lit 11)), .int .u8 (Int.ofNat (nat_lit 8))], cells := cs0, m := nat_lit 28, esz := nat_lit 2, fl := true, pl := true, v := .tuple [.agg [.int .u32 (Int.ofNat (nat_lit 9)), .int .u32 (Int.ofNat (nat_lit 2)), .int .u8 (Int.ofNat (nat_lit 8)), .int .u8 (Int.ofNat (nat_lit 0)), .int .u32 (Int.ofNat (nat_lit 0)), .int .u32 (Int.ofNat (nat_lit 0))], .bool true] }
def ln13 : SEnt := { off := nat_lit 0, len := nat_lit 14, ep := nat_lit 0, q1 := nat_lit 2, q2 := false, rest := [.int .u32 (Int.ofNat (nat_lit 11)), .int .u32 (Int.ofNat (nat_lit 12)), .int .u8 (Int.ofNat (nat_lit 1))], cells := cs0, m := nat_lit 28, esz := nat_lit 2, fl := true, pl := true, v := .tuple [.agg [.int .u32 (Int.ofNat (nat_lit 11)), .int .u32 (Int.ofNat (nat_lit 1)), .int .u8 (Int.ofNat (nat_lit 1)), .int .u8 (Int.ofNat (nat_lit 10)), .int .u32 (Int.ofNat (nat_lit 0)), .int .u32 (Int.ofNat (nat_lit 0))], .bool true] }
def ln14 : SEnt := { off := nat_lit 0, len := nat_lit 14, ep := nat_lit 0, q1 := nat_lit 2, q2 := false, rest := [.int .u32 (Int.ofNat (nat_lit 12)), .int .u32 (Int.ofNat (nat_lit 13)), .int .u8 (Int.ofNat (nat_lit 1))], cells := cs0, m := nat_lit 28, esz := nat_lit 2, fl := true, pl := true, v := .tuple [.agg [.int .u32 (Int.ofNat (nat_lit 12)), .int .u32 (Int.ofNat (nat_lit 1)), .int .u8 (Int.ofNat (nat_lit 1)), .int .u8 (Int.ofNat (nat_lit 8)), .int .u32 (Int.ofNat (nat_lit 0)), .int .u32 (Int.ofNat (nat_lit 0))], .bool true] }
def ln15 : SEnt := { off := nat_lit 0, len := nat_lit 14, ep := nat_lit 0, q1 := nat_lit 2, q2 := false, rest := [.int .u32 (Int.ofNat (nat_lit 13)), .int .u32 (Int.ofNat (nat_lit 14)), .int .u8 (Int.ofNat (nat_lit 1))], cells := cs0, m := nat_lit 28, esz := nat_lit 2, fl := true, pl := true, v := .tuple [.agg [.int .u32 (Int.ofNat (nat_lit 13)), .int .u32 (Int.ofNat (nat_lit 1)), .int .u8 (Int.ofNat (nat_lit 1)), .int .u8 (Int.ofNat (nat_lit 4)), .int .u32 (Int.ofNat (nat_lit 8)), .int .u32 (Int.ofNat (nat_lit 0))], .bool true] }
end Go.Proofs.YtpciiciljkfblaaGreatDoor
end
