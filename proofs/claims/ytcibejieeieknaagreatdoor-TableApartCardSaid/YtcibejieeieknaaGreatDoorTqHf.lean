/- What stands for the first key holds; no conditions. -/
import Derived.Test.YtcibejieeieknaaGreatDoorTqA
set_option linter.unusedSimpArgs false
set_option linter.unusedVariables false
namespace Go.Proofs.YtcibejieeieknaaGreatDoor
open Go.Ev
namespace Ev
set_option maxRecDepth 100000 in
theorem chk9a : (t9.take 1).all (chkEnt gl X2 Tryz.prog 4000 9) = true := by kernel_rfl

end Ev
end Go.Proofs.YtcibejieeieknaaGreatDoor

/- What stands for the second key holds; no conditions. -/
namespace Go.Proofs.YtcibejieeieknaaGreatDoor
open Go.Ev
namespace Ev
set_option maxRecDepth 100000 in
theorem chk9b : ((t9.drop 1).take 1).all (chkEnt gl X2 Tryz.prog 4000 9) = true := by kernel_rfl

end Ev
end Go.Proofs.YtcibejieeieknaaGreatDoor

/- What stands for the third key holds; no conditions. -/
namespace Go.Proofs.YtcibejieeieknaaGreatDoor
open Go.Ev
namespace Ev
set_option maxRecDepth 100000 in
theorem chk9c : ((t9.drop 1).drop 1).all (chkEnt gl X2 Tryz.prog 4000 9) = true := by kernel_rfl

end Ev
end Go.Proofs.YtcibejieeieknaaGreatDoor
