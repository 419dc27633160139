/- Some of the tables hold of the evaluator; no conditions. -/
import Derived.Test.YtjbckafipapkjaaGreatDoorEncA
set_option linter.unusedSimpArgs false
set_option linter.unusedVariables false
namespace Go.Proofs.YtjbckafipapkjaaGreatDoor
open Go.Ev
namespace Ev
set_option maxRecDepth 100000 in
theorem chk115 : eq115.all (chkQ gl Y12 Tryz.prog 4000 115) = true := by kernel_rfl

end Ev
end Go.Proofs.YtjbckafipapkjaaGreatDoor
