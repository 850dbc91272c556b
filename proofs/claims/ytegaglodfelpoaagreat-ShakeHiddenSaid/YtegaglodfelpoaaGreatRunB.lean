/- ShakeHidden, a piece of its run: the first connection. -/
import Derived.Test.YtegaglodfelpoaaGreatStatesA
set_option linter.unusedVariables false
set_option linter.unusedSimpArgs false
set_option linter.unusedVariables false
set_option maxRecDepth 1000000
namespace Go.AE
theorem p_d0 (x y z u : AV) : execs E2 100000 LB (hdrF 0 true (F0 x) x y z u) H0 = some (D0 x y z u, HD0) := by kernel_rfl
end Go.AE
