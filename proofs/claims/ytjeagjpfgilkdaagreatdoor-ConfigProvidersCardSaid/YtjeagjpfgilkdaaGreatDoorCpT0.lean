/-
  ConfigProviders: the texts of providers.
-/
import Derived.Test.YtjeagjpfgilkdaaGreatDoorCpC
set_option linter.unusedVariables false
set_option linter.unusedSimpArgs false
open Go Go.Ev
namespace Go.Proofs.Cp
set_option maxRecDepth 100000
theorem texts0 : (trips 0).all textOne = true := by kernel_rfl
theorem texts1 : (trips 1).all textOne = true := by kernel_rfl
end Go.Proofs.Cp
