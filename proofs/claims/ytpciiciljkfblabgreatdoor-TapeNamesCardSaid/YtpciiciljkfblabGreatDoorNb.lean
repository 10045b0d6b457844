/-
  The settings go on. Printed by program.
-/
import Derived.Test.YtpciiciljkfblabGreatDoorQa
import Derived.Test.YtpciiciljkfblabGreatDoorQb
import Derived.Test.YtpciiciljkfblabGreatDoorQc
section
namespace Go.Proofs.YtpciiciljkfblabGreatDoor
open Go Go.Sim Go.Sim.Kr
set_option maxRecDepth 1000000
set_option linter.unusedVariables false
def tabL : List SEnt := [ln0, ln1, ln2, ln3, ln4]
theorem tabQ : ∀ x ∈ tabL, subQ Kc 3000 197 x = true := by
  intro x hx
  simp only [tabL, List.mem_cons, List.not_mem_nil, or_false] at hx
  rcases hx with rfl | rfl | rfl | rfl | rfl
  · exact q0
  · exact q1
  · exact q2
  · exact q3
  · exact q4
noncomputable def Ed : Env := withV Ec 197 (subV Ec (evC Ec Cw 3000) 197)
noncomputable def Kd : KC := withG Kc 197 (tabS tabL) Ed
theorem kd : KOk Kd Cw := withG_ok kc 197 (tabS_ok kc 3000 197 tabQ)
theorem md : MOk Ed pM := withV_mok mc rfl ⟨Tryz.f197, Tryz.f197.body.getD .skip, Tryz.func197, by kernel_rfl, by simp [Tryz.f197]⟩ (fun args h r h' hc => sub_sound (evC_sound mc.eq mc.fn mc.kn mc.ki 3000) mc.fn hc)
noncomputable def E1 : Env := withC Ed Cw 3000 [224]
noncomputable def K1 : KC := withF Kd 3000 [224] E1
theorem k1 : KOk K1 Cw := withF_ok kd 3000 [224]
theorem m1 : MOk E1 pM := withC_mok md (fun _ _ => rfl) (by
    intro x hx
    simp only [List.mem_cons, List.not_mem_nil, or_false] at hx
    subst hx
    exact ⟨Tryz.f224, Tryz.f224.body.getD .skip, Tryz.func224, by kernel_rfl, by simp [Tryz.f224]⟩)
noncomputable def E2 : Env := withC E1 Cw 3000 [391]
noncomputable def K2 : KC := withF K1 3000 [391] E2
theorem k2 : KOk K2 Cw := withF_ok k1 3000 [391]
theorem m2 : MOk E2 pM := withC_mok m1 (fun _ _ => rfl) (by
    intro x hx
    simp only [List.mem_cons, List.not_mem_nil, or_false] at hx
    subst hx
    exact ⟨Tryz.f391, Tryz.f391.body.getD .skip, Tryz.func391, by kernel_rfl, by simp [Tryz.f391]⟩)
noncomputable def E3 : Env := withC E2 Cw 3000 [381]
noncomputable def K3 : KC := withF K2 3000 [381] E3
theorem k3 : KOk K3 Cw := withF_ok k2 3000 [381]
theorem m3 : MOk E3 pM := withC_mok m2 (fun _ _ => rfl) (by
    intro x hx
    simp only [List.mem_cons, List.not_mem_nil, or_false] at hx
    subst hx
    exact ⟨Tryz.f381, Tryz.f381.body.getD .skip, Tryz.func381, by kernel_rfl, by simp [Tryz.f381]⟩)
end Go.Proofs.YtpciiciljkfblabGreatDoor
end
