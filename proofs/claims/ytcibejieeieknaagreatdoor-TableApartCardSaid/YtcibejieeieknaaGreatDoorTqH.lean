/- The summaries of the seat hold of the model; no conditions. -/
import Derived.Test.YtcibejieeieknaaGreatDoorTqT
import Derived.Test.YtcibejieeieknaaGreatDoorTqHa
import Derived.Test.YtcibejieeieknaaGreatDoorTqHc
import Derived.Test.YtcibejieeieknaaGreatDoorTqHf
import Derived.Test.YtcibejieeieknaaGreatDoorTqHi
set_option linter.unusedSimpArgs false
set_option linter.unusedVariables false
namespace Go.Proofs.YtcibejieeieknaaGreatDoor
open Go.Ev
namespace Ev
theorem hmix : Tryz.prog.follows .mixedOrders = true := Tryz.checked.mixed

section
variable {ρ : Env} {pc : PC}
theorem X0_ok : HooksOK Tryz.prog ρ X0 pc := XM_ok (XE_ok (P := Tryz.prog) (e := 224) (fn := Tryz.f224) Tryz.func224 (by kernel_rfl) (by kernel_rfl) (by kernel_rfl) (by kernel_rfl))
theorem chk153 : t153.all (chkEnt gl X0 Tryz.prog 4000 153) = true := by
  rw [← List.take_append_drop 10 t153, List.all_append, chk153a, chk153b]; rfl
theorem chk9 : t9.all (chkEnt gl X2 Tryz.prog 4000 9) = true := by
  rw [← List.take_append_drop 1 t9, List.all_append, chk9a, ← List.take_append_drop 1 (t9.drop 1), List.all_append, chk9b, chk9c]; rfl
theorem X1_ok : HooksOK Tryz.prog ρ X1 pc := X0_ok.with (sumTab_ok glok X0_ok rfl hmix ⟨_, Tryz.func153, by kernel_rfl, by kernel_rfl⟩ chk153)
theorem X2_ok : HooksOK Tryz.prog ρ X2 pc :=
  (((((X1_ok.with (sumTab_ok glok X0_ok rfl hmix ⟨_, Tryz.func42, by kernel_rfl, by kernel_rfl⟩ chk42)).with (sumTab_ok glok X0_ok rfl hmix ⟨_, Tryz.func43, by kernel_rfl, by kernel_rfl⟩ chk43)).with (sumTab_ok glok X0_ok rfl hmix ⟨_, Tryz.func44, by kernel_rfl, by kernel_rfl⟩ chk44)).with (sumTab_ok glok X1_ok rfl hmix ⟨_, Tryz.func45, by kernel_rfl, by kernel_rfl⟩ chk45)).with (sumTab_ok glok X0_ok rfl hmix ⟨_, Tryz.func46, by kernel_rfl, by kernel_rfl⟩ chk46)).with (sumTab_ok glok X0_ok rfl hmix ⟨_, Tryz.func47, by kernel_rfl, by kernel_rfl⟩ chk47)
theorem X3_ok : HooksOK Tryz.prog ρ X3 pc := (X2_ok.with (sumTab_ok glok X2_ok rfl hmix ⟨_, Tryz.func9, by kernel_rfl, by kernel_rfl⟩ chk9)).with (sumTab_ok glok X2_ok rfl hmix ⟨_, Tryz.func7, by kernel_rfl, by kernel_rfl⟩ chk7)
theorem X4_ok : HooksOK Tryz.prog ρ X4 pc := X3_ok.with (sumTab_ok glok X3_ok rfl hmix ⟨_, Tryz.func11, by kernel_rfl, by kernel_rfl⟩ chk11)
theorem rows_ok : FnOK Tryz.prog ρ (sumTab gl t13 pc) 13 := sumTab_ok glok X2_ok rfl hmix ⟨_, Tryz.func13, by kernel_rfl, by kernel_rfl⟩ chk13
theorem awake_ok : FnOK Tryz.prog ρ (sumTab gl t11 pc) 11 := sumTab_ok glok X3_ok rfl hmix ⟨_, Tryz.func11, by kernel_rfl, by kernel_rfl⟩ chk11
end

end Ev
end Go.Proofs.YtcibejieeieknaaGreatDoor
