/- ShakeHidden, a piece of its run: connection 2. -/
import Derived.Test.YtegaglodfelpoaaGreatStatesA
set_option linter.unusedVariables false
set_option linter.unusedSimpArgs false
set_option linter.unusedVariables false
set_option maxRecDepth 1000000
namespace Go.AE
theorem p_d1 (x y z u : AV) : execs E2 100000 LB (hdrF 1 true (incF 0 (D0 x y z u)) x y z u) HD0 = some (D1 x y z u, HD1) := by kernel_rfl
end Go.AE
