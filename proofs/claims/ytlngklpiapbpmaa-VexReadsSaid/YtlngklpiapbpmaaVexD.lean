/- VexReads at the lengths 0, 1, 2, and beyond 100; no conditions. -/
import Derived.Test.YtlngklpiapbpmaaVexA
set_option linter.unusedSimpArgs false
set_option linter.unusedVariables false
namespace Go.Proofs.Ytlngklpiapbpmaa
open Go.Ev
namespace Ev
set_option maxRecDepth 100000 in
theorem t0 : [([] : PC)].all (fun pc => isT pc (run Try.prog XA pc 4000 3 [.emp] H0)) = true := by kernel_rfl
set_option maxRecDepth 100000 in
theorem tnil : [([] : PC)].all (fun pc => isT pc (run Try.prog XA pc 4000 3 [.nils] H0)) = true := by kernel_rfl
set_option maxRecDepth 100000 in
theorem tbig : [([(.lt (li 100) (.var 3), true)] : PC)].all (fun pc => isT pc (run Try.prog XA pc 4000 3 [.slv 64 0 0 (.var 3) 1] (HB 0))) = true := by kernel_rfl
set_option maxRecDepth 100000 in
theorem t1 : pcs1.all (fun pc => isT pc (run Try.prog XA pc 4000 3 [argB 1] (HB 1))) = true := by kernel_rfl
set_option maxRecDepth 100000 in
theorem t2 : pcs2.all (fun pc => isT pc (run Try.prog XA pc 4000 3 [argB 2] (HB 2))) = true := by kernel_rfl
end Ev
end Go.Proofs.Ytlngklpiapbpmaa
