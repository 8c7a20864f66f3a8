/-
  ConfigProviders: the texts of configs.
-/
import Derived.Test.YtjeagjpfgilkdaaGreatDoorCpC
set_option linter.unusedVariables false
set_option linter.unusedSimpArgs false
open Go Go.Ev
namespace Go.Proofs.Cp
set_option maxRecDepth 100000
theorem writes1 : (trips 1).all writeOne = true := by kernel_rfl
end Go.Proofs.Cp
