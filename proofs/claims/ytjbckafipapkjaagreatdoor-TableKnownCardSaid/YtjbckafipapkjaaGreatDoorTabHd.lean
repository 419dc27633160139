/- The tables of alu and of unary hold; no conditions. -/
import Derived.Test.YtjbckafipapkjaaGreatDoorTabA
set_option linter.unusedSimpArgs false
set_option linter.unusedVariables false
namespace Go.Proofs.YtjbckafipapkjaaGreatDoor
open Go.Ev
namespace Ev
set_option maxRecDepth 100000 in
theorem chk51 : t51.all (chkEnt gl X0 Tryz.prog 4000 51) = true := by kernel_rfl
set_option maxRecDepth 100000 in
theorem chk52 : t52.all (chkEnt gl X0 Tryz.prog 4000 52) = true := by kernel_rfl

end Ev
end Go.Proofs.YtjbckafipapkjaaGreatDoor
