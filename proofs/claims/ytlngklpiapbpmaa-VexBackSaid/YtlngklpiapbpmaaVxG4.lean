/- The cases of VexBack at some lengths; no conditions. -/
import Derived.Test.YtlngklpiapbpmaaVxE
set_option linter.unusedSimpArgs false
set_option linter.unusedVariables false
namespace Go.Proofs.Ytlngklpiapbpmaa
open Go.Ev
namespace Ev
set_option maxRecDepth 100000 in
theorem sa13 : all1 true 13 = true := by kernel_rfl
set_option maxRecDepth 100000 in
theorem sb13 : all2 true 13 = true := by kernel_rfl
set_option maxRecDepth 100000 in
theorem sa14 : all1 true 14 = true := by kernel_rfl
set_option maxRecDepth 100000 in
theorem sb14 : all2 true 14 = true := by kernel_rfl
set_option maxRecDepth 100000 in
theorem sa15 : all1 true 15 = true := by kernel_rfl
set_option maxRecDepth 100000 in
theorem sb15 : all2 true 15 = true := by kernel_rfl
set_option maxRecDepth 100000 in
theorem sa16 : all1 true 16 = true := by kernel_rfl
set_option maxRecDepth 100000 in
theorem sb16 : all2 true 16 = true := by kernel_rfl
end Ev
end Go.Proofs.Ytlngklpiapbpmaa
