/-
  Settings that know awake.
-/
import Derived.Test.YtpciiciljkfblaaGreatDoorQd
section
namespace Go.Proofs.YtpciiciljkfblaaGreatDoor
open Go Go.Sim Go.Sim.Kr
set_option maxRecDepth 100000
theorem awakeKnown : ∀ args h r h', trueV args h = some (r, h') → CallS Tryz.prog pM 7 args h r h' := trueV_known k3 m3 evAwake
noncomputable def E4 : Env := withV E3 7 trueV
noncomputable def K4 : KC := withG K3 7 trueG E4
theorem k4 : KOk K4 Cw := withG_ok k3 7 trueG_ok
theorem m4 : MOk E4 pM := withV_mok m3 rfl ⟨Tryz.f7, Tryz.f7.body.getD .skip, Tryz.func7, by kernel_rfl, by simp [Tryz.f7]⟩ awakeKnown
end Go.Proofs.YtpciiciljkfblaaGreatDoor
end
