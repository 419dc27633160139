/- Closed facts of the row; no conditions. -/
import Derived.Test.YtjbckafipapkjaaGreatDoorRows
import Derived.JoinedOf
import Derived.KernelRfl
set_option linter.unusedSimpArgs false
set_option linter.unusedVariables false
namespace Go.Proofs.YtjbckafipapkjaaGreatDoor
open Go
namespace Ev
set_option maxRecDepth 100000 in
theorem fInPlace : (Rows.encodeKnownRow.inPlace == Tryz.prog.inPlace 4) = true := by kernel_rfl
set_option maxRecDepth 100000 in
theorem fUnf : (Rows.encodeKnownRow.unfollowed == Tryz.prog.unfollowed 4) = true := by kernel_rfl

end Ev
end Go.Proofs.YtjbckafipapkjaaGreatDoor
