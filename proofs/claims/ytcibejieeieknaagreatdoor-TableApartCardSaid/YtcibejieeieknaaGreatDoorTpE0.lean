/- What is asked of each form alone holds of the evaluator; no conditions. -/
import Derived.Test.YtcibejieeieknaaGreatDoorTpR
set_option linter.unusedSimpArgs false
set_option linter.unusedVariables false
namespace Go.Proofs.YtcibejieeieknaaGreatDoor
open Go.Ev
namespace Ev
set_option maxRecDepth 100000 in
theorem cc0 : ((tabR.drop 0).take 420).all chk2 = true := by kernel_rfl
end Ev
end Go.Proofs.YtcibejieeieknaaGreatDoor

/- What is asked of each form alone holds of the evaluator; no conditions. -/
namespace Go.Proofs.YtcibejieeieknaaGreatDoor
open Go.Ev
namespace Ev
set_option maxRecDepth 100000 in
theorem cc1 : ((tabR.drop 420).take 420).all chk2 = true := by kernel_rfl
end Ev
end Go.Proofs.YtcibejieeieknaaGreatDoor
