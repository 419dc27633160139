/- Ten entries of name.Parse hold; no conditions. -/
import Derived.Test.YtcibejieeieknaaGreatDoorTqA
set_option linter.unusedSimpArgs false
set_option linter.unusedVariables false
namespace Go.Proofs.YtcibejieeieknaaGreatDoor
open Go.Ev
namespace Ev
set_option maxRecDepth 100000 in
theorem chk153a : (t153.take 10).all (chkEnt gl X0 Tryz.prog 4000 153) = true := by kernel_rfl

end Ev
end Go.Proofs.YtcibejieeieknaaGreatDoor

/- The other entries of name.Parse hold; no conditions. -/
namespace Go.Proofs.YtcibejieeieknaaGreatDoor
open Go.Ev
namespace Ev
set_option maxRecDepth 100000 in
theorem chk153b : (t153.drop 10).all (chkEnt gl X0 Tryz.prog 4000 153) = true := by kernel_rfl

end Ev
end Go.Proofs.YtcibejieeieknaaGreatDoor
