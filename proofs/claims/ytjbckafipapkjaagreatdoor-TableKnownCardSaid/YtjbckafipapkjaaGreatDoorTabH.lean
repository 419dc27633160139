/- The summaries of the seat hold of the model; no conditions. -/
import Derived.Test.YtjbckafipapkjaaGreatDoorTabT
import Derived.Test.YtjbckafipapkjaaGreatDoorTabHa
import Derived.Test.YtjbckafipapkjaaGreatDoorTabHb
import Derived.Test.YtjbckafipapkjaaGreatDoorTabHc
import Derived.Test.YtjbckafipapkjaaGreatDoorTabHd
import Derived.Test.YtjbckafipapkjaaGreatDoorTabHe
import Derived.Test.YtjbckafipapkjaaGreatDoorTabHf
import Derived.Test.YtjbckafipapkjaaGreatDoorTabHg
import Derived.Test.YtjbckafipapkjaaGreatDoorTabHh
import Derived.Test.YtjbckafipapkjaaGreatDoorTabHi
set_option linter.unusedSimpArgs false
set_option linter.unusedVariables false
namespace Go.Proofs.YtjbckafipapkjaaGreatDoor
open Go.Ev
namespace Ev
theorem glok : glOK gl = true := by kernel_rfl
theorem hmix : Tryz.prog.follows .mixedOrders = true := Tryz.checked.mixed

section
variable {ρ : Env} {pc : PC}
theorem X0_ok : HooksOK Tryz.prog ρ X0 pc := XM_ok (XE_ok (P := Tryz.prog) (e := 278) (fn := Tryz.f278) Tryz.func278 (by kernel_rfl) (by kernel_rfl) (by kernel_rfl) (by kernel_rfl))
theorem chk171 : t171.all (chkEnt gl X0 Tryz.prog 4000 171) = true := by
  rw [← List.take_append_drop 10 t171, List.all_append, chk171a, chk171b]; rfl
theorem chk31 : t31.all (chkEnt gl X2 Tryz.prog 4000 31) = true := by
  rw [← List.take_append_drop 1 t31, List.all_append, chk31a, ← List.take_append_drop 1 (t31.drop 1), List.all_append, chk31b, chk31c]; rfl
theorem X1_ok : HooksOK Tryz.prog ρ X1 pc := X0_ok.with (sumTab_ok glok X0_ok rfl hmix ⟨_, Tryz.func171, by kernel_rfl, by kernel_rfl⟩ chk171)
theorem X2_ok : HooksOK Tryz.prog ρ X2 pc :=
  (((((X1_ok.with (sumTab_ok glok X0_ok rfl hmix ⟨_, Tryz.func51, by kernel_rfl, by kernel_rfl⟩ chk51)).with (sumTab_ok glok X0_ok rfl hmix ⟨_, Tryz.func52, by kernel_rfl, by kernel_rfl⟩ chk52)).with (sumTab_ok glok X0_ok rfl hmix ⟨_, Tryz.func53, by kernel_rfl, by kernel_rfl⟩ chk53)).with (sumTab_ok glok X1_ok rfl hmix ⟨_, Tryz.func54, by kernel_rfl, by kernel_rfl⟩ chk54)).with (sumTab_ok glok X0_ok rfl hmix ⟨_, Tryz.func55, by kernel_rfl, by kernel_rfl⟩ chk55)).with (sumTab_ok glok X0_ok rfl hmix ⟨_, Tryz.func56, by kernel_rfl, by kernel_rfl⟩ chk56)
theorem X3_ok : HooksOK Tryz.prog ρ X3 pc := (X2_ok.with (sumTab_ok glok X2_ok rfl hmix ⟨_, Tryz.func31, by kernel_rfl, by kernel_rfl⟩ chk31)).with (sumTab_ok glok X2_ok rfl hmix ⟨_, Tryz.func32, by kernel_rfl, by kernel_rfl⟩ chk32)
theorem X4_ok : HooksOK Tryz.prog ρ X4 pc := X3_ok.with (sumTab_ok glok X3_ok rfl hmix ⟨_, Tryz.func10, by kernel_rfl, by kernel_rfl⟩ chk10)
end

def env0 : Env := ⟨fun _ => 0, fun _ _ => 0, fun _ _ => false⟩

end Ev
end Go.Proofs.YtjbckafipapkjaaGreatDoor
