/- The law TableApart is evaluated to true; no conditions. -/
import Derived.Test.YtcibejieeieknaaGreatDoorTpW
set_option linter.unusedSimpArgs false
set_option linter.unusedVariables false
namespace Go.Proofs.YtcibejieeieknaaGreatDoor
open Go.Ev
namespace Ev
set_option maxRecDepth 100000 in
theorem apartR : pcsApart.all (fun pc => isT pc (run Tryz.prog XApart pc 4000 5 [.int .i64 (.var 0), .int .i64 (.var 1)] (HG gl))) = true := by kernel_rfl
end Ev
end Go.Proofs.YtcibejieeieknaaGreatDoor
