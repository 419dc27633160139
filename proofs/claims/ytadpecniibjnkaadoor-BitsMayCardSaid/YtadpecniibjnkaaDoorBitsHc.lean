/- The tables of the two Rows, of awake and of BitsKnown hold; no conditions. -/
import Derived.Test.YtadpecniibjnkaaDoorBitsA
set_option linter.unusedSimpArgs false
set_option linter.unusedVariables false
namespace Go.Proofs.YtadpecniibjnkaaDoor
open Go.Ev
namespace Ev
set_option maxRecDepth 100000 in
theorem chk9 : t9.all (chkEnt gl X1 Tryd.prog 4000 9) = true := by kernel_rfl
set_option maxRecDepth 100000 in
theorem chk11 : t11.all (chkEnt gl X0 Tryd.prog 4000 11) = true := by kernel_rfl
set_option maxRecDepth 100000 in
theorem chk13 : t13.all (chkEnt gl X2 Tryd.prog 4000 13) = true := by kernel_rfl
set_option maxRecDepth 100000 in
theorem chk5 : t5.all (chkEnt gl X3 Tryd.prog 4000 5) = true := by kernel_rfl
set_option maxRecDepth 100000 in
theorem pk1 : isV (.int .i64 (.wrap .i64 (.add (.rem (.var 0) (.var 1)) (.var 1)))) (run Tryd.prog X0 pickLo 4000 15 pickArgs H0) = true := by kernel_rfl
set_option maxRecDepth 100000 in
theorem pk2 : isV (.int .i64 (.rem (.var 0) (.var 1))) (run Tryd.prog X0 pickHi 4000 15 pickArgs H0) = true := by kernel_rfl

end Ev
end Go.Proofs.YtadpecniibjnkaaDoor
