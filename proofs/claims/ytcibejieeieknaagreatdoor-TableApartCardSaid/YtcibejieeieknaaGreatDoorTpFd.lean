/- Closed facts of the card; no conditions. -/
import Derived.Test.YtcibejieeieknaaGreatDoorRows
import Derived.JoinedOf
import Derived.KernelRfl
import Derived.SevenTiedAt
set_option linter.unusedSimpArgs false
set_option linter.unusedVariables false
namespace Go.Proofs.YtcibejieeieknaaGreatDoor
open Go
namespace Ev
set_option maxRecDepth 100000 in
theorem cLooks : true = Tryz.prog.looks [] := by kernel_rfl
set_option maxRecDepth 100000 in
theorem cGoes : false = Rows.tableApartRow.goesBy Tryz.prog := by kernel_rfl

end Ev
end Go.Proofs.YtcibejieeieknaaGreatDoor
