/- The tables of bits and of flow hold; no conditions. -/
import Derived.Test.YtcibejieeieknaaGreatDoorTqA
set_option linter.unusedSimpArgs false
set_option linter.unusedVariables false
namespace Go.Proofs.YtcibejieeieknaaGreatDoor
open Go.Ev
namespace Ev
set_option maxRecDepth 100000 in
theorem chk45 : t45.all (chkEnt gl X1 Tryz.prog 4000 45) = true := by kernel_rfl
set_option maxRecDepth 100000 in
theorem chk44 : t44.all (chkEnt gl X0 Tryz.prog 4000 44) = true := by kernel_rfl

end Ev
end Go.Proofs.YtcibejieeieknaaGreatDoor

/- The tables of alu and of unary hold; no conditions. -/
namespace Go.Proofs.YtcibejieeieknaaGreatDoor
open Go.Ev
namespace Ev
set_option maxRecDepth 100000 in
theorem chk42 : t42.all (chkEnt gl X0 Tryz.prog 4000 42) = true := by kernel_rfl
set_option maxRecDepth 100000 in
theorem chk43 : t43.all (chkEnt gl X0 Tryz.prog 4000 43) = true := by kernel_rfl

end Ev
end Go.Proofs.YtcibejieeieknaaGreatDoor

/- The tables of sse and of avx hold; no conditions. -/
namespace Go.Proofs.YtcibejieeieknaaGreatDoor
open Go.Ev
namespace Ev
set_option maxRecDepth 100000 in
theorem chk46 : t46.all (chkEnt gl X0 Tryz.prog 4000 46) = true := by kernel_rfl
set_option maxRecDepth 100000 in
theorem chk47 : t47.all (chkEnt gl X0 Tryz.prog 4000 47) = true := by kernel_rfl

end Ev
end Go.Proofs.YtcibejieeieknaaGreatDoor
