/- TableKnown is evaluated to true; no conditions. -/
import Derived.Test.YtjbckafipapkjaaGreatDoorTabA
set_option linter.unusedSimpArgs false
set_option linter.unusedVariables false
namespace Go.Proofs.YtjbckafipapkjaaGreatDoor
open Go.Ev
namespace Ev
set_option maxRecDepth 100000 in
theorem knownR : [([] : PC)].all (fun pc => isT pc (run Tryz.prog X4 pc 4000 3 [] (HG gl))) = true := by kernel_rfl

end Ev
end Go.Proofs.YtjbckafipapkjaaGreatDoor
