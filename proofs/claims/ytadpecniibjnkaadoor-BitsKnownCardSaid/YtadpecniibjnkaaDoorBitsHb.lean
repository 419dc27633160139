/- The other entries of name.Parse hold; no conditions. -/
import Derived.Test.YtadpecniibjnkaaDoorBitsA
set_option linter.unusedSimpArgs false
set_option linter.unusedVariables false
namespace Go.Proofs.YtadpecniibjnkaaDoor
open Go.Ev
namespace Ev
set_option maxRecDepth 100000 in
theorem chk51b : (t51.drop 10).all (chkEnt gl X0 Tryd.prog 4000 51) = true := by kernel_rfl

end Ev
end Go.Proofs.YtadpecniibjnkaaDoor
