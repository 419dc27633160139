/- Some of the tables hold of the evaluator; no conditions. -/
import Derived.Test.YtjbckafipapkjaaGreatDoorEncA
set_option linter.unusedSimpArgs false
set_option linter.unusedVariables false
namespace Go.Proofs.YtjbckafipapkjaaGreatDoor
open Go.Ev
namespace Ev
set_option maxRecDepth 100000 in
theorem chk56 : et56.all (chkEnt gl Y1 Tryz.prog 4000 56) = true := by kernel_rfl
set_option maxRecDepth 100000 in
theorem chk53 : et53.all (chkEnt gl Y2 Tryz.prog 4000 53) = true := by kernel_rfl

end Ev
end Go.Proofs.YtjbckafipapkjaaGreatDoor
