/- table.keys of two forms, by how far their opcodes are apart; no conditions. -/
import Derived.Test.YtcibejieeieknaaGreatDoorTpM
set_option linter.unusedSimpArgs false
set_option linter.unusedVariables false
namespace Go.Proofs.YtcibejieeieknaaGreatDoor
open Go.Ev
namespace Ev
set_option maxRecDepth 100000 in
theorem krp4 : keysR 4 = true := by kernel_rfl
set_option maxRecDepth 100000 in
theorem krp5 : keysR 5 = true := by kernel_rfl
set_option maxRecDepth 100000 in
theorem krp6 : keysR 6 = true := by kernel_rfl
set_option maxRecDepth 100000 in
theorem krp7 : keysR 7 = true := by kernel_rfl
set_option maxRecDepth 100000 in
theorem krp8 : keysR 8 = true := by kernel_rfl
end Ev
end Go.Proofs.YtcibejieeieknaaGreatDoor
