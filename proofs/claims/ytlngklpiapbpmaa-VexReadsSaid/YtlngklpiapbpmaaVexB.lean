/- What vex.Read and its reference tell in each case holds of the evaluator; so does awake; no conditions. -/
import Derived.Test.YtlngklpiapbpmaaVexA
set_option linter.unusedSimpArgs false
set_option linter.unusedVariables false
namespace Go.Proofs.Ytlngklpiapbpmaa
open Go.Ev
namespace Ev
set_option maxRecDepth 100000 in
theorem chk6 : tAw.all (chkEnt [] X0 Try.prog 4000 6) = true := by kernel_rfl
set_option maxRecDepth 100000 in
theorem chk9 : cs3.all (chkRead Try.prog X0 4000 9) = true := by kernel_rfl
set_option maxRecDepth 100000 in
theorem chk8 : cs3.all (chkRead Try.prog X0 4000 8) = true := by kernel_rfl
end Ev
end Go.Proofs.Ytlngklpiapbpmaa
