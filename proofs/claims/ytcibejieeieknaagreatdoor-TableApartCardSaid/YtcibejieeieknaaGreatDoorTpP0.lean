/- Which forms meet: some of them, and all; no conditions. -/
import Derived.Test.YtcibejieeieknaaGreatDoorTpN
set_option linter.unusedSimpArgs false
set_option linter.unusedVariables false
namespace Go.Proofs.YtcibejieeieknaaGreatDoor
open Go.Ev
namespace Ev
set_option maxRecDepth 100000 in
theorem pa0 : all2 ((tabR.drop 0).take 210) 0 = true := by kernel_rfl
end Ev
end Go.Proofs.YtcibejieeieknaaGreatDoor

/- Which forms meet: some of them, and all; no conditions. -/
namespace Go.Proofs.YtcibejieeieknaaGreatDoor
open Go.Ev
namespace Ev
set_option maxRecDepth 100000 in
theorem pa1 : all2 ((tabR.drop 210).take 210) 210 = true := by kernel_rfl
end Ev
end Go.Proofs.YtcibejieeieknaaGreatDoor
