/- table.keys of two forms, by how far their opcodes are apart; no conditions. -/
import Derived.Test.YtcibejieeieknaaGreatDoorTpM
set_option linter.unusedSimpArgs false
set_option linter.unusedVariables false
namespace Go.Proofs.YtcibejieeieknaaGreatDoor
open Go.Ev
namespace Ev
set_option maxRecDepth 100000 in
theorem krm2 : keysR (-2) = true := by kernel_rfl
set_option maxRecDepth 100000 in
theorem krm1 : keysR (-1) = true := by kernel_rfl
set_option maxRecDepth 100000 in
theorem krp0 : keysR 0 = true := by kernel_rfl
set_option maxRecDepth 100000 in
theorem krp1 : keysR 1 = true := by kernel_rfl
set_option maxRecDepth 100000 in
theorem krp2 : keysR 2 = true := by kernel_rfl
set_option maxRecDepth 100000 in
theorem krp3 : keysR 3 = true := by kernel_rfl
end Ev
end Go.Proofs.YtcibejieeieknaaGreatDoor
