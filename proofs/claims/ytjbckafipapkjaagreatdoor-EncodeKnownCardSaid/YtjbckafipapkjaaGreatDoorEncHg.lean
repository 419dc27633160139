/- Some of the tables hold of the evaluator; no conditions. -/
import Derived.Test.YtjbckafipapkjaaGreatDoorEncA
set_option linter.unusedSimpArgs false
set_option linter.unusedVariables false
namespace Go.Proofs.YtjbckafipapkjaaGreatDoor
open Go.Ev
namespace Ev
set_option maxRecDepth 100000 in
theorem chk132 : et132.all (chkEnt gl Y12 Tryz.prog 4000 132) = true := by kernel_rfl
set_option maxRecDepth 100000 in
theorem chk203 : et203.all (chkEnt gl Y13 Tryz.prog 4000 203) = true := by kernel_rfl
set_option maxRecDepth 100000 in
theorem chk201 : et201.all (chkEnt gl Y14 Tryz.prog 4000 201) = true := by kernel_rfl

end Ev
end Go.Proofs.YtjbckafipapkjaaGreatDoor
