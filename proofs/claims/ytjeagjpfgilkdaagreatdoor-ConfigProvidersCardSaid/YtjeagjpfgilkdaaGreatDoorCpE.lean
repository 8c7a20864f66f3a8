/-
  ConfigProviders: the law, at all pairs.
-/
import Derived.Test.YtjeagjpfgilkdaaGreatDoorCpD
set_option linter.unusedVariables false
set_option linter.unusedSimpArgs false
open Go Go.Ev
namespace Go.Proofs.Cp
set_option maxRecDepth 100000
theorem lawB (a b : Nat) : run1.call 3 [.int .u8 (.ofNat a), .int .u8 (.ofNat b)] h0 (fun v _ => v.beq (.bool true)) = true := by kernel_rfl
theorem law_ok (a b : Nat) : ∃ h', CallOk Tryz.prog 3 [.int .u8 (.ofNat a), .int .u8 (.ofNat b)] h0 (.bool true) h' := found self1 flat0.ok (lawB a b)
end Go.Proofs.Cp
