/- The row: EncodeKnown holds for every input (it has none), of a program whose package variables start as its text lays them; no other conditions. -/
import Derived.Test.YtjbckafipapkjaaGreatDoorLawEncodeKnownL
set_option linter.unusedSimpArgs false
set_option linter.unusedVariables false
namespace Go.Proofs.YtjbckafipapkjaaGreatDoor
open Go.Ev Go.ChangeShapes Go.WideShapes Go.ChangeAt Go.RowKit
namespace Ev
theorem encodeKnown_row : Rows.EncodeKnownSaid :=
  OpenClaim.holds_of_wide 4 Tryz.f4 rfl rfl rfl rfl rfl rfl rfl ⟨rfl, rfl, rfl, rfl, rfl⟩ rfl rfl rfl rfl rfl (by kernel_rfl) Tryz.func4 closed
    (of_decide_eq_true (by kernel_rfl)) (by unfold Func.isWrapper; rw [if_neg (by decide +kernel)]; exact ⟨rfl, rfl⟩)
    (fun os started H enc _ => encodeKnown_lifted os started H enc)


end Ev
end Go.Proofs.YtjbckafipapkjaaGreatDoor
