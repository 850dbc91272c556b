/- ShakeHidden, a piece of its run: what is known behind 3, with both secrets. -/
import Derived.Test.YtegaglodfelpoaaGreatStatesB
set_option linter.unusedVariables false
set_option linter.unusedSimpArgs false
set_option linter.unusedVariables false
set_option maxRecDepth 1000000
namespace Go.AE
theorem p_r2b (x y z u : AV) : execs E2 100000 ((L3.drop 12).take 4) (RA2 x y z u) HR2 = some (RB2 x y z u, HB2) := by kernel_rfl
end Go.AE
