/- ShakeHidden, a piece of its run: what is known behind 3, the first half. -/
import Derived.Test.YtegaglodfelpoaaGreatStatesA
set_option linter.unusedVariables false
set_option linter.unusedSimpArgs false
set_option linter.unusedVariables false
set_option maxRecDepth 1000000
namespace Go.AE
theorem p_r2a (x y z u : AV) : execs E2 100000 ((L3.drop 10).take 2) (hdrF 3 false (incF 2 (D2 x y z u)) x y z u) HD2 = some (RA2 x y z u, HR2) := by kernel_rfl
end Go.AE
