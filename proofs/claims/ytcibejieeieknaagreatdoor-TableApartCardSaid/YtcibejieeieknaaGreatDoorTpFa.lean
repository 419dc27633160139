/- Closed facts of the row; no conditions. -/
import Derived.Test.YtcibejieeieknaaGreatDoorRows
import Derived.JoinedOf
import Derived.KernelRfl
set_option linter.unusedSimpArgs false
set_option linter.unusedVariables false
namespace Go.Proofs.YtcibejieeieknaaGreatDoor
open Go
namespace Ev
set_option maxRecDepth 100000 in
theorem fInPlace : (Rows.tableApartRow.inPlace == Tryz.prog.inPlace 5) = true := by kernel_rfl
set_option maxRecDepth 100000 in
theorem fUnf : (Rows.tableApartRow.unfollowed == Tryz.prog.unfollowed 5) = true := by kernel_rfl

end Ev
end Go.Proofs.YtcibejieeieknaaGreatDoor
