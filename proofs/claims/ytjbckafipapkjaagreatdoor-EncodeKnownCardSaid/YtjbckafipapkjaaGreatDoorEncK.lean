/- EncodeKnown is evaluated to true; no conditions. -/
import Derived.Test.YtjbckafipapkjaaGreatDoorEncA
set_option linter.unusedSimpArgs false
set_option linter.unusedVariables false
namespace Go.Proofs.YtjbckafipapkjaaGreatDoor
open Go.Ev
namespace Ev
set_option maxRecDepth 100000 in
theorem knownR : [([] : PC)].all (fun pc => isT pc (run Tryz.prog Y19 pc 4000 4 [] (HG gl))) = true := by kernel_rfl

end Ev
end Go.Proofs.YtjbckafipapkjaaGreatDoor
