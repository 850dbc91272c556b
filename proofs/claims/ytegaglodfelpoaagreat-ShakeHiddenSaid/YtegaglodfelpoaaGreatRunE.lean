/- ShakeHidden, a piece of its run: connection 4. -/
import Derived.Test.YtegaglodfelpoaaGreatStatesA
set_option linter.unusedVariables false
set_option linter.unusedSimpArgs false
set_option linter.unusedVariables false
set_option maxRecDepth 1000000
namespace Go.AE
theorem p_d3 (x y z u : AV) : execs E2 100000 LB (hdrF 3 true (incF 2 (D2 x y z u)) x y z u) HD2 = some (D3 x y z u, HD3) := by kernel_rfl
end Go.AE
