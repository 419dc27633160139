/- The summaries of the seat hold of the model; no conditions. -/
import Derived.Test.YtjbckafipapkjaaGreatDoorEncT
import Derived.Test.YtjbckafipapkjaaGreatDoorEncHa
import Derived.Test.YtjbckafipapkjaaGreatDoorEncHb
import Derived.Test.YtjbckafipapkjaaGreatDoorEncHc
import Derived.Test.YtjbckafipapkjaaGreatDoorEncHd
import Derived.Test.YtjbckafipapkjaaGreatDoorEncHe
import Derived.Test.YtjbckafipapkjaaGreatDoorEncHf
import Derived.Test.YtjbckafipapkjaaGreatDoorEncHg
import Derived.Test.YtjbckafipapkjaaGreatDoorEncHh
import Derived.Test.YtjbckafipapkjaaGreatDoorEncP42a
import Derived.Test.YtjbckafipapkjaaGreatDoorEncP42b
import Derived.Test.YtjbckafipapkjaaGreatDoorEncP42c
import Derived.Test.YtjbckafipapkjaaGreatDoorEncP12a
import Derived.Test.YtjbckafipapkjaaGreatDoorEncP12b
import Derived.Test.YtjbckafipapkjaaGreatDoorEncP12c
set_option linter.unusedSimpArgs false
set_option linter.unusedVariables false
namespace Go.Proofs.YtjbckafipapkjaaGreatDoor
open Go.Ev
namespace Ev
theorem chk42 : er42.all (chkR gl Y16 Tryz.prog 4000 42) = true := by
  unfold er42
  simp only [List.all_append, chk42_0, chk42_1, chk42_2, Bool.and_self]
theorem chk12 : er12.all (chkR gl Y15 Tryz.prog 4000 12) = true := by
  unfold er12
  simp only [List.all_append, chk12_0, chk12_1, chk12_2, Bool.and_self]
theorem glok : glOK gl = true := by kernel_rfl
theorem hmix : Tryz.prog.follows .mixedOrders = true := Tryz.checked.mixed

section
variable {ρ : Env} {pc : PC}
theorem Y0_ok : HooksOK Tryz.prog ρ Y0 pc := XM_ok (XE_ok (P := Tryz.prog) (e := 278) (fn := Tryz.f278) Tryz.func278 (by kernel_rfl) (by kernel_rfl) (by kernel_rfl) (by kernel_rfl))
theorem Y1_ok : HooksOK Tryz.prog ρ Y1 pc := Y0_ok.with (sumTab_ok glok Y0_ok rfl hmix ⟨_, Tryz.func250, by kernel_rfl, by kernel_rfl⟩ chk250)
theorem Y2_ok : HooksOK Tryz.prog ρ Y2 pc := Y1_ok.with (sumTab_ok glok Y1_ok rfl hmix ⟨_, Tryz.func56, by kernel_rfl, by kernel_rfl⟩ chk56)
theorem Y3_ok : HooksOK Tryz.prog ρ Y3 pc := Y2_ok.with (sumTab_ok glok Y2_ok rfl hmix ⟨_, Tryz.func53, by kernel_rfl, by kernel_rfl⟩ chk53)
theorem Y4_ok : HooksOK Tryz.prog ρ Y4 pc := Y3_ok.with (sumTab_ok glok Y3_ok rfl hmix ⟨_, Tryz.func51, by kernel_rfl, by kernel_rfl⟩ chk51)
theorem Y5_ok : HooksOK Tryz.prog ρ Y5 pc := Y4_ok.with (sumTab_ok glok Y4_ok rfl hmix ⟨_, Tryz.func32, by kernel_rfl, by kernel_rfl⟩ chk32)
theorem Y6_ok : HooksOK Tryz.prog ρ Y6 pc := Y5_ok.with (sumTab_ok glok Y5_ok rfl hmix ⟨_, Tryz.func64, by kernel_rfl, by kernel_rfl⟩ chk64)
theorem Y7_ok : HooksOK Tryz.prog ρ Y7 pc := Y6_ok.with (sumTab_ok glok Y6_ok rfl hmix ⟨_, Tryz.func188, by kernel_rfl, by kernel_rfl⟩ chk188)
theorem Y8_ok : HooksOK Tryz.prog ρ Y8 pc := Y7_ok.with (sumTab_ok glok Y7_ok rfl hmix ⟨_, Tryz.func65, by kernel_rfl, by kernel_rfl⟩ chk65)
theorem Y9_ok : HooksOK Tryz.prog ρ Y9 pc := Y8_ok.with (qTab_ok glok Y8_ok rfl hmix ⟨_, Tryz.func66, by kernel_rfl, by kernel_rfl⟩ chk66)
theorem Y10_ok : HooksOK Tryz.prog ρ Y10 pc := Y9_ok.with (qTab_ok glok Y9_ok rfl hmix ⟨_, Tryz.func37, by kernel_rfl, by kernel_rfl⟩ chk37)
theorem Y11_ok : HooksOK Tryz.prog ρ Y11 pc := Y10_ok.with (sumTab_ok glok Y10_ok rfl hmix ⟨_, Tryz.func198, by kernel_rfl, by kernel_rfl⟩ chk198)
theorem Y12_ok : HooksOK Tryz.prog ρ Y12 pc := Y11_ok.with (qTab_ok glok Y11_ok rfl hmix ⟨_, Tryz.func197, by kernel_rfl, by kernel_rfl⟩ chk197)
theorem Y13_ok : HooksOK Tryz.prog ρ Y13 pc := Y12_ok.with (sumTab_ok glok Y12_ok rfl hmix ⟨_, Tryz.func132, by kernel_rfl, by kernel_rfl⟩ chk132)
theorem Y14_ok : HooksOK Tryz.prog ρ Y14 pc := Y13_ok.with (sumTab_ok glok Y13_ok rfl hmix ⟨_, Tryz.func203, by kernel_rfl, by kernel_rfl⟩ chk203)
theorem Y15_ok : HooksOK Tryz.prog ρ Y15 pc := Y14_ok.with (sumTab_ok glok Y14_ok rfl hmix ⟨_, Tryz.func201, by kernel_rfl, by kernel_rfl⟩ chk201)
theorem Y16_ok : HooksOK Tryz.prog ρ Y16 pc := Y15_ok.with (rTab_ok glok Y15_ok rfl hmix ⟨_, Tryz.func12, by kernel_rfl, by kernel_rfl⟩ chk12)
theorem Y17_ok : HooksOK Tryz.prog ρ Y17 pc := Y16_ok.with (rTab_ok glok Y16_ok rfl hmix ⟨_, Tryz.func42, by kernel_rfl, by kernel_rfl⟩ chk42)
theorem Y18_ok : HooksOK Tryz.prog ρ Y18 pc := Y17_ok.with (rTab_ok glok Y17_ok rfl hmix ⟨_, Tryz.func17, by kernel_rfl, by kernel_rfl⟩ chk17)
theorem Y19_ok : HooksOK Tryz.prog ρ Y19 pc := Y18_ok.with (sumTab_ok glok Y18_ok rfl hmix ⟨_, Tryz.func19, by kernel_rfl, by kernel_rfl⟩ chk19)
end

def env0 : Env := ⟨fun _ => 0, fun _ _ => 0, fun _ _ => false⟩

end Ev
end Go.Proofs.YtjbckafipapkjaaGreatDoor
