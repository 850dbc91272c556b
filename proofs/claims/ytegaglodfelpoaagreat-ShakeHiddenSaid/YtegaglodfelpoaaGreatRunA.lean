/- ShakeHidden, a piece of its run: works, and what is made. -/
import Derived.Test.YtegaglodfelpoaaGreatStatesA
set_option linter.unusedVariables false
set_option linter.unusedSimpArgs false
set_option linter.unusedVariables false
set_option maxRecDepth 1000000
namespace Go.AE
theorem p_s0 (x : AV) : execs E2 100000 (L3.take 9) (frameOf [x] 0 .nil) ⟨.nil, 0⟩ = some (F0 x, H0) := by kernel_rfl
end Go.AE
