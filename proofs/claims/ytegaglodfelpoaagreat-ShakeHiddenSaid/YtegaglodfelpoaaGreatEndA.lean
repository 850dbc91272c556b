/- ShakeHidden, a piece of its run: what is known behind 1. -/
import Derived.Test.YtegaglodfelpoaaGreatStatesA
set_option linter.unusedVariables false
set_option linter.unusedSimpArgs false
set_option linter.unusedVariables false
set_option maxRecDepth 1000000
namespace Go.AE
theorem p_r0 (x y z u : AV) : outT (execs E2 100000 ((L3.drop 10).take 9) (hdrF 1 false (incF 0 (D0 x y z u)) x y z u) HD0) = true := by kernel_rfl
end Go.AE
