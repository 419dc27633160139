/- Two forms are apart: twenty first ones; no conditions. -/
import Derived.Test.YtadpecniibjnkaaDoorBitsA
set_option linter.unusedSimpArgs false
set_option linter.unusedVariables false
namespace Go.Proofs.YtadpecniibjnkaaDoor
open Go.Ev
namespace Ev
set_option maxRecDepth 100000 in
theorem apart3 : (pcsJ 3).all (fun pc => isT pc (run Tryd.prog X5 pc 4000 6 [.int .i64 (.var 0), .int .i64 (.var 1)] (HG gl))) = true := by kernel_rfl

set_option maxRecDepth 100000 in
theorem apart4 : (pcsJ 4).all (fun pc => isT pc (run Tryd.prog X5 pc 4000 6 [.int .i64 (.var 0), .int .i64 (.var 1)] (HG gl))) = true := by kernel_rfl


end Ev
end Go.Proofs.YtadpecniibjnkaaDoor
