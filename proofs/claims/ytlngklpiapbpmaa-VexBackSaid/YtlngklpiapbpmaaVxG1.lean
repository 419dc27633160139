/- The cases of VexBack at some lengths; no conditions. -/
import Derived.Test.YtlngklpiapbpmaaVxE
set_option linter.unusedSimpArgs false
set_option linter.unusedVariables false
namespace Go.Proofs.Ytlngklpiapbpmaa
open Go.Ev
namespace Ev
set_option maxRecDepth 100000 in
theorem sa0 : all1 true 0 = true := by kernel_rfl
set_option maxRecDepth 100000 in
theorem sb0 : all2 true 0 = true := by kernel_rfl
set_option maxRecDepth 100000 in
theorem sa0e : all1 false 0 = true := by kernel_rfl
set_option maxRecDepth 100000 in
theorem sb0e : all2 false 0 = true := by kernel_rfl
set_option maxRecDepth 100000 in
theorem sa1 : all1 true 1 = true := by kernel_rfl
set_option maxRecDepth 100000 in
theorem sb1 : all2 true 1 = true := by kernel_rfl
set_option maxRecDepth 100000 in
theorem sa2 : all1 true 2 = true := by kernel_rfl
set_option maxRecDepth 100000 in
theorem sb2 : all2 true 2 = true := by kernel_rfl
set_option maxRecDepth 100000 in
theorem sa3 : all1 true 3 = true := by kernel_rfl
set_option maxRecDepth 100000 in
theorem sb3 : all2 true 3 = true := by kernel_rfl
set_option maxRecDepth 100000 in
theorem sa4 : all1 true 4 = true := by kernel_rfl
set_option maxRecDepth 100000 in
theorem sb4 : all2 true 4 = true := by kernel_rfl
end Ev
end Go.Proofs.Ytlngklpiapbpmaa
