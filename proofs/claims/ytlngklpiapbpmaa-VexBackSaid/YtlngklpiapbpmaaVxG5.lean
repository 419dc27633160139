/- The cases of VexBack at some lengths; no conditions. -/
import Derived.Test.YtlngklpiapbpmaaVxE
set_option linter.unusedSimpArgs false
set_option linter.unusedVariables false
namespace Go.Proofs.Ytlngklpiapbpmaa
open Go.Ev
namespace Ev
set_option maxRecDepth 100000 in
theorem sa17 : all1 true 17 = true := by kernel_rfl
set_option maxRecDepth 100000 in
theorem sb17 : all2 true 17 = true := by kernel_rfl
set_option maxRecDepth 100000 in
theorem sa18 : all1 true 18 = true := by kernel_rfl
set_option maxRecDepth 100000 in
theorem sb18 : all2 true 18 = true := by kernel_rfl
set_option maxRecDepth 100000 in
theorem sa19 : all1 true 19 = true := by kernel_rfl
set_option maxRecDepth 100000 in
theorem sb19 : all2 true 19 = true := by kernel_rfl
set_option maxRecDepth 100000 in
theorem sa20 : all1 true 20 = true := by kernel_rfl
set_option maxRecDepth 100000 in
theorem sb20 : all2 true 20 = true := by kernel_rfl
end Ev
end Go.Proofs.Ytlngklpiapbpmaa
