/- ShakeHidden, a piece of its run: no key is known behind 3. -/
import Derived.Test.YtegaglodfelpoaaGreatStatesB
set_option linter.unusedVariables false
set_option linter.unusedSimpArgs false
set_option linter.unusedVariables false
set_option maxRecDepth 1000000
namespace Go.AE
theorem p_r2c (x y z u : AV) : outT (execs E2 100000 ((L3.drop 16).take 3) (RB2 x y z u) HB2) = true := by kernel_rfl
end Go.AE
