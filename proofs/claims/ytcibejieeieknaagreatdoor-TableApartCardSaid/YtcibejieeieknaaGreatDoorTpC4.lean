/- What is asked of each form alone holds of the evaluator; no conditions. -/
import Derived.Test.YtcibejieeieknaaGreatDoorTpR
set_option linter.unusedSimpArgs false
set_option linter.unusedVariables false
namespace Go.Proofs.YtcibejieeieknaaGreatDoor
open Go.Ev
namespace Ev
set_option maxRecDepth 100000 in
theorem cm : tabR.all (chk1 38 modAV) = true := by kernel_rfl
end Ev
end Go.Proofs.YtcibejieeieknaaGreatDoor

/- What is asked of each form alone holds of the evaluator; no conditions. -/
namespace Go.Proofs.YtcibejieeieknaaGreatDoor
open Go.Ev
namespace Ev
set_option maxRecDepth 100000 in
theorem cr : tabR.all (chk1 39 regAV) = true := by kernel_rfl
end Ev
end Go.Proofs.YtcibejieeieknaaGreatDoor

/- What is asked of each form alone holds of the evaluator; no conditions. -/
namespace Go.Proofs.YtcibejieeieknaaGreatDoor
open Go.Ev
namespace Ev
set_option maxRecDepth 100000 in
theorem cp : tabR.all (chk1 40 plAV) = true := by kernel_rfl
end Ev
end Go.Proofs.YtcibejieeieknaaGreatDoor
