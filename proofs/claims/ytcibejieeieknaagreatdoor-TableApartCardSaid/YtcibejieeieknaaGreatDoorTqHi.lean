/- What a mnemonic has, awake and TableKnown hold; no conditions. -/
import Derived.Test.YtcibejieeieknaaGreatDoorTqA
import Derived.Test.YtcibejieeieknaaGreatDoorTqR
set_option linter.unusedSimpArgs false
set_option linter.unusedVariables false
namespace Go.Proofs.YtcibejieeieknaaGreatDoor
open Go.Ev
namespace Ev
set_option maxRecDepth 100000 in
theorem chk7 : t7.all (chkEnt gl X2 Tryz.prog 4000 7) = true := by kernel_rfl
set_option maxRecDepth 100000 in
theorem chk11 : t11.all (chkEnt gl X3 Tryz.prog 4000 11) = true := by kernel_rfl

end Ev
end Go.Proofs.YtcibejieeieknaaGreatDoor

/- The whole table holds; no conditions. -/
namespace Go.Proofs.YtcibejieeieknaaGreatDoor
open Go.Ev
namespace Ev
set_option maxRecDepth 100000 in
theorem chk13 : t13.all (chkEnt gl X2 Tryz.prog 4000 13) = true := by kernel_rfl
set_option maxRecDepth 100000 in
theorem glok : glOK gl = true := by kernel_rfl

end Ev
end Go.Proofs.YtcibejieeieknaaGreatDoor
