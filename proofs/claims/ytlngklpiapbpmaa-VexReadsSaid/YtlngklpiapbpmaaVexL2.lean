/- VexReads at lengths 53 to 100, in every case of the first three bytes; no conditions. -/
import Derived.Test.YtlngklpiapbpmaaVexA
set_option linter.unusedSimpArgs false
set_option linter.unusedVariables false
namespace Go.Proofs.Ytlngklpiapbpmaa
open Go.Ev
namespace Ev
set_option maxRecDepth 100000 in
theorem lens50 : ((List.range 24).all fun i => pcs3.all (fun pc => isT pc (run Try.prog (XR (i + 53)) pc 4000 3 [argB (i + 53)] (HB (i + 53))))) = true := by kernel_rfl
set_option maxRecDepth 100000 in
theorem lens74 : ((List.range 24).all fun i => pcs3.all (fun pc => isT pc (run Try.prog (XR (i + 77)) pc 4000 3 [argB (i + 77)] (HB (i + 77))))) = true := by kernel_rfl
end Ev
end Go.Proofs.Ytlngklpiapbpmaa
