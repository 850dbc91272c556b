/- ShakeHidden, a piece of its run: what is known behind 4, the first half. -/
import Derived.Test.YtegaglodfelpoaaGreatStatesA
set_option linter.unusedVariables false
set_option linter.unusedSimpArgs false
set_option linter.unusedVariables false
set_option maxRecDepth 1000000
namespace Go.AE
theorem p_r3a (x y z u : AV) : execs E2 100000 ((L3.drop 10).take 2) (hdrF 4 false (incF 3 (D3 x y z u)) x y z u) HD3 = some (RA3 x y z u, HR3) := by kernel_rfl
end Go.AE
