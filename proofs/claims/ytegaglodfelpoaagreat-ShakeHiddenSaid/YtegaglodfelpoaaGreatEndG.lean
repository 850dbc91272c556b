/- ShakeHidden, a piece of its run: what is known behind 4, with both secrets. -/
import Derived.Test.YtegaglodfelpoaaGreatStatesB
set_option linter.unusedVariables false
set_option linter.unusedSimpArgs false
set_option linter.unusedVariables false
set_option maxRecDepth 1000000
namespace Go.AE
theorem p_r3b (x y z u : AV) : execs E2 100000 ((L3.drop 12).take 4) (RA3 x y z u) HR3 = some (RB3 x y z u, HB3) := by kernel_rfl
end Go.AE
