/- The tables of bits and of flow hold; no conditions. -/
import Derived.Test.YtjbckafipapkjaaGreatDoorTabA
set_option linter.unusedSimpArgs false
set_option linter.unusedVariables false
namespace Go.Proofs.YtjbckafipapkjaaGreatDoor
open Go.Ev
namespace Ev
set_option maxRecDepth 100000 in
theorem chk54 : t54.all (chkEnt gl X1 Tryz.prog 4000 54) = true := by kernel_rfl
set_option maxRecDepth 100000 in
theorem chk53 : t53.all (chkEnt gl X0 Tryz.prog 4000 53) = true := by kernel_rfl

end Ev
end Go.Proofs.YtjbckafipapkjaaGreatDoor
