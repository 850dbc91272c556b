/- ShakeHidden, a piece of its run: no key is known behind 4. -/
import Derived.Test.YtegaglodfelpoaaGreatStatesB
set_option linter.unusedVariables false
set_option linter.unusedSimpArgs false
set_option linter.unusedVariables false
set_option maxRecDepth 1000000
namespace Go.AE
theorem p_r3c (x y z u : AV) : outT (execs E2 100000 ((L3.drop 16).take 3) (RB3 x y z u) HB3) = true := by kernel_rfl
end Go.AE
