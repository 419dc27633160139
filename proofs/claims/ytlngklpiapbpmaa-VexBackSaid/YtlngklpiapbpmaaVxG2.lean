/- The cases of VexBack at some lengths; no conditions. -/
import Derived.Test.YtlngklpiapbpmaaVxE
set_option linter.unusedSimpArgs false
set_option linter.unusedVariables false
namespace Go.Proofs.Ytlngklpiapbpmaa
open Go.Ev
namespace Ev
set_option maxRecDepth 100000 in
theorem sa5 : all1 true 5 = true := by kernel_rfl
set_option maxRecDepth 100000 in
theorem sb5 : all2 true 5 = true := by kernel_rfl
set_option maxRecDepth 100000 in
theorem sa6 : all1 true 6 = true := by kernel_rfl
set_option maxRecDepth 100000 in
theorem sb6 : all2 true 6 = true := by kernel_rfl
set_option maxRecDepth 100000 in
theorem sa7 : all1 true 7 = true := by kernel_rfl
set_option maxRecDepth 100000 in
theorem sb7 : all2 true 7 = true := by kernel_rfl
set_option maxRecDepth 100000 in
theorem sa8 : all1 true 8 = true := by kernel_rfl
set_option maxRecDepth 100000 in
theorem sb8 : all2 true 8 = true := by kernel_rfl
end Ev
end Go.Proofs.Ytlngklpiapbpmaa
