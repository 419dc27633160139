/- What is asked of each form alone holds of the evaluator; no conditions. -/
import Derived.Test.YtcibejieeieknaaGreatDoorTpR
set_option linter.unusedSimpArgs false
set_option linter.unusedVariables false
namespace Go.Proofs.YtcibejieeieknaaGreatDoor
open Go.Ev
namespace Ev
set_option maxRecDepth 100000 in
theorem ck2 : ((tabR.drop 210).take 105).all (chk1 16 okAV) = true := by kernel_rfl
end Ev
end Go.Proofs.YtcibejieeieknaaGreatDoor

/- What is asked of each form alone holds of the evaluator; no conditions. -/
namespace Go.Proofs.YtcibejieeieknaaGreatDoor
open Go.Ev
namespace Ev
set_option maxRecDepth 100000 in
theorem ck3 : ((tabR.drop 315).take 105).all (chk1 16 okAV) = true := by kernel_rfl
end Ev
end Go.Proofs.YtcibejieeieknaaGreatDoor
