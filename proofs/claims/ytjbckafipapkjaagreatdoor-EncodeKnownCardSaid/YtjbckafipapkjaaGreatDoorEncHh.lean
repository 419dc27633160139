/- Some of the tables hold of the evaluator; no conditions. -/
import Derived.Test.YtjbckafipapkjaaGreatDoorEncA
set_option linter.unusedSimpArgs false
set_option linter.unusedVariables false
namespace Go.Proofs.YtjbckafipapkjaaGreatDoor
open Go.Ev
namespace Ev
set_option maxRecDepth 100000 in
theorem chk17 : er17.all (chkR gl Y17 Tryz.prog 4000 17) = true := by kernel_rfl
set_option maxRecDepth 100000 in
theorem chk19 : et19.all (chkEnt gl Y18 Tryz.prog 4000 19) = true := by kernel_rfl

end Ev
end Go.Proofs.YtjbckafipapkjaaGreatDoor
