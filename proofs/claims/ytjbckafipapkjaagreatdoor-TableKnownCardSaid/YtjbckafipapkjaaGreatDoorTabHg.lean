/- What stands for the second key holds; no conditions. -/
import Derived.Test.YtjbckafipapkjaaGreatDoorTabA
set_option linter.unusedSimpArgs false
set_option linter.unusedVariables false
namespace Go.Proofs.YtjbckafipapkjaaGreatDoor
open Go.Ev
namespace Ev
set_option maxRecDepth 100000 in
theorem chk31b : ((t31.drop 1).take 1).all (chkEnt gl X2 Tryz.prog 4000 31) = true := by kernel_rfl

end Ev
end Go.Proofs.YtjbckafipapkjaaGreatDoor
