/- Some of the tables hold of the evaluator; no conditions. -/
import Derived.Test.YtjbckafipapkjaaGreatDoorEncA
set_option linter.unusedSimpArgs false
set_option linter.unusedVariables false
namespace Go.Proofs.YtjbckafipapkjaaGreatDoor
open Go.Ev
namespace Ev
set_option maxRecDepth 100000 in
theorem chk64 : et64.all (chkEnt gl Y5 Tryz.prog 4000 64) = true := by kernel_rfl
set_option maxRecDepth 100000 in
theorem chk188 : et188.all (chkEnt gl Y6 Tryz.prog 4000 188) = true := by kernel_rfl
set_option maxRecDepth 100000 in
theorem chk65 : et65.all (chkEnt gl Y7 Tryz.prog 4000 65) = true := by kernel_rfl
set_option maxRecDepth 100000 in
theorem chk66 : eq66.all (chkQ gl Y8 Tryz.prog 4000 66) = true := by kernel_rfl
set_option maxRecDepth 100000 in
theorem chk37 : eq37.all (chkQ gl Y9 Tryz.prog 4000 37) = true := by kernel_rfl
set_option maxRecDepth 100000 in
theorem chk198 : et198.all (chkEnt gl Y10 Tryz.prog 4000 198) = true := by kernel_rfl

end Ev
end Go.Proofs.YtjbckafipapkjaaGreatDoor
