/-
  The settings go on. Printed by program.
-/
import Derived.Test.YtpciiciljkfblaaGreatDoorQa
import Derived.Test.YtpciiciljkfblaaGreatDoorQb
import Derived.Test.YtpciiciljkfblaaGreatDoorQc
import Derived.Test.YtpciiciljkfblaaGreatDoorQf
import Derived.Test.YtpciiciljkfblaaGreatDoorQg
section
namespace Go.Proofs.YtpciiciljkfblaaGreatDoor
open Go Go.Sim Go.Sim.Kr
set_option maxRecDepth 1000000
set_option linter.unusedVariables false
def tabL0 : List SEnt := [ln0, ln1, ln2, ln3, ln4, ln5, ln6, ln7]
theorem tabQ0 : ∀ x ∈ tabL0, subQ Kc0 3000 101 x = true := by
  intro x hx
  simp only [tabL0, List.mem_cons, List.not_mem_nil, or_false] at hx
  rcases hx with rfl | rfl | rfl | rfl | rfl | rfl | rfl | rfl
  · exact q0
  · exact q1
  · exact q2
  · exact q3
  · exact q4
  · exact q5
  · exact q6
  · exact q7
noncomputable def Ed : Env := withV Ec0 101 (subV Ec0 (evC Ec0 Cw 3000) 101)
noncomputable def Kd : KC := withG Kc0 101 (tabS tabL0) Ed
theorem kd : KOk Kd Cw := withG_ok kc0 101 (tabS_ok kc0 3000 101 tabQ0)
theorem md : MOk Ed pM := withV_mok mc0 rfl ⟨Tryz.f101, Tryz.f101.body.getD .skip, Tryz.func101, by kernel_rfl, by simp [Tryz.f101]⟩ (fun args h r h' hc => sub_sound (evC_sound mc0.eq mc0.fn mc0.kn mc0.ki 3000) mc0.fn hc)
def tabL1 : List SEnt := [ln8, ln9, ln10, ln11, ln12, ln13, ln14, ln15]
theorem tabQ1 : ∀ x ∈ tabL1, subQ Kc0 3000 83 x = true := by
  intro x hx
  simp only [tabL1, List.mem_cons, List.not_mem_nil, or_false] at hx
  rcases hx with rfl | rfl | rfl | rfl | rfl | rfl | rfl | rfl
  · exact q8
  · exact q9
  · exact q10
  · exact q11
  · exact q12
  · exact q13
  · exact q14
  · exact q15
noncomputable def Ed1 : Env := withV Ed 83 (subV Ec0 (evC Ec0 Cw 3000) 83)
noncomputable def Kd1 : KC := withG Kd 83 (tabS tabL1) Ed1
theorem kd1 : KOk Kd1 Cw := withG_ok kd 83 (tabS_ok kc0 3000 83 tabQ1)
theorem md1 : MOk Ed1 pM := withV_mok md rfl ⟨Tryz.f83, Tryz.f83.body.getD .skip, Tryz.func83, by kernel_rfl, by simp [Tryz.f83]⟩ (fun args h r h' hc => sub_sound (evC_sound mc0.eq mc0.fn mc0.kn mc0.ki 3000) mc0.fn hc)
noncomputable abbrev E3 : Env := Ed1
noncomputable abbrev K3 : KC := Kd1
theorem k3 : KOk K3 Cw := kd1
theorem m3 : MOk E3 pM := md1
end Go.Proofs.YtpciiciljkfblaaGreatDoor
end
