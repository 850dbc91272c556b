/- ShakeHidden, a piece of its run: connection 3. -/
import Derived.Test.YtegaglodfelpoaaGreatStatesA
set_option linter.unusedVariables false
set_option linter.unusedSimpArgs false
set_option linter.unusedVariables false
set_option maxRecDepth 1000000
namespace Go.AE
theorem p_d2 (x y z u : AV) : execs E2 100000 LB (hdrF 2 true (incF 1 (D1 x y z u)) x y z u) HD1 = some (D2 x y z u, HD2) := by kernel_rfl
end Go.AE
