/- Closed facts of the row; no conditions. -/
import Derived.Test.YtjbckafipapkjaaGreatDoorRows
import Derived.JoinedOf
import Derived.KernelRfl
set_option linter.unusedSimpArgs false
set_option linter.unusedVariables false
namespace Go.Proofs.YtjbckafipapkjaaGreatDoor
open Go
namespace Ev
set_option maxRecDepth 100000 in
theorem fRec : (Rows.encodeKnownRow.recurses == Tryz.prog.recurses 4) = true := by kernel_rfl
set_option maxRecDepth 100000 in
theorem fNamed : (Rows.encodeKnownRow.named == Tryz.prog.varsNamed 4) = true := by kernel_rfl

end Ev
end Go.Proofs.YtjbckafipapkjaaGreatDoor
