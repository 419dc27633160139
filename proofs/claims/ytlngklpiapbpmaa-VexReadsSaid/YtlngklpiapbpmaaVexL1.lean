/- VexReads at lengths 3 to 52, in every case of the first three bytes; no conditions. -/
import Derived.Test.YtlngklpiapbpmaaVexA
set_option linter.unusedSimpArgs false
set_option linter.unusedVariables false
namespace Go.Proofs.Ytlngklpiapbpmaa
open Go.Ev
namespace Ev
set_option maxRecDepth 100000 in
theorem lens0 : ((List.range 25).all fun i => pcs3.all (fun pc => isT pc (run Try.prog (XR (i + 3)) pc 4000 3 [argB (i + 3)] (HB (i + 3))))) = true := by kernel_rfl
set_option maxRecDepth 100000 in
theorem lens25 : ((List.range 25).all fun i => pcs3.all (fun pc => isT pc (run Try.prog (XR (i + 28)) pc 4000 3 [argB (i + 28)] (HB (i + 28))))) = true := by kernel_rfl
end Ev
end Go.Proofs.Ytlngklpiapbpmaa
