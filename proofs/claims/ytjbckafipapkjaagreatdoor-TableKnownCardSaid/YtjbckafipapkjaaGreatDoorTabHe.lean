/- The tables of sse and of avx hold; no conditions. -/
import Derived.Test.YtjbckafipapkjaaGreatDoorTabA
set_option linter.unusedSimpArgs false
set_option linter.unusedVariables false
namespace Go.Proofs.YtjbckafipapkjaaGreatDoor
open Go.Ev
namespace Ev
set_option maxRecDepth 100000 in
theorem chk55 : t55.all (chkEnt gl X0 Tryz.prog 4000 55) = true := by kernel_rfl
set_option maxRecDepth 100000 in
theorem chk56 : t56.all (chkEnt gl X0 Tryz.prog 4000 56) = true := by kernel_rfl

end Ev
end Go.Proofs.YtjbckafipapkjaaGreatDoor
