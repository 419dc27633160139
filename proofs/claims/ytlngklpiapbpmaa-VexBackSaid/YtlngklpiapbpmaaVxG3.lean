/- The cases of VexBack at some lengths; no conditions. -/
import Derived.Test.YtlngklpiapbpmaaVxE
set_option linter.unusedSimpArgs false
set_option linter.unusedVariables false
namespace Go.Proofs.Ytlngklpiapbpmaa
open Go.Ev
namespace Ev
set_option maxRecDepth 100000 in
theorem sa9 : all1 true 9 = true := by kernel_rfl
set_option maxRecDepth 100000 in
theorem sb9 : all2 true 9 = true := by kernel_rfl
set_option maxRecDepth 100000 in
theorem sa10 : all1 true 10 = true := by kernel_rfl
set_option maxRecDepth 100000 in
theorem sb10 : all2 true 10 = true := by kernel_rfl
set_option maxRecDepth 100000 in
theorem sa11 : all1 true 11 = true := by kernel_rfl
set_option maxRecDepth 100000 in
theorem sb11 : all2 true 11 = true := by kernel_rfl
set_option maxRecDepth 100000 in
theorem sa12 : all1 true 12 = true := by kernel_rfl
set_option maxRecDepth 100000 in
theorem sb12 : all2 true 12 = true := by kernel_rfl
end Ev
end Go.Proofs.Ytlngklpiapbpmaa
