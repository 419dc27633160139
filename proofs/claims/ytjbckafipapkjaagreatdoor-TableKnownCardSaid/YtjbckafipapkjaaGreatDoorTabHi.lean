/- What a mnemonic has, and awake hold; no conditions. -/
import Derived.Test.YtjbckafipapkjaaGreatDoorTabA
set_option linter.unusedSimpArgs false
set_option linter.unusedVariables false
namespace Go.Proofs.YtjbckafipapkjaaGreatDoor
open Go.Ev
namespace Ev
set_option maxRecDepth 100000 in
theorem chk32 : t32.all (chkEnt gl X2 Tryz.prog 4000 32) = true := by kernel_rfl
set_option maxRecDepth 100000 in
theorem chk10 : t10.all (chkEnt gl X3 Tryz.prog 4000 10) = true := by kernel_rfl

end Ev
end Go.Proofs.YtjbckafipapkjaaGreatDoor
