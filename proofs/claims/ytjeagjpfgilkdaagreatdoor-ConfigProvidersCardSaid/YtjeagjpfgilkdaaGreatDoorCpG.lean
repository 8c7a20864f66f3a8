/-
  ConfigProviders: the row's closed facts.
-/
import Derived.Test.YtjeagjpfgilkdaaGreatDoorCpF
set_option linter.unusedVariables false
set_option linter.unusedSimpArgs false
namespace Go.Proofs.YtjeagjpfgilkdaaGreatDoor
open Go.ChangeShapes Go.WideShapes Go.RowKit Go.Ev
set_option maxRecDepth 100000
set_option maxHeartbeats 0

theorem closed : joinedFacts Tryz.pinned.checked.prog 3 Tryz.f3 Rows.configProvidersSpec Rows.configProvidersRow = true := by
  unfold joinedFacts
  simp only [Bool.and_eq_true]
  repeat' apply And.intro
  all_goals as_aux_lemma => kernel_rfl
theorem inst : Tryz.f3.isInstance Tryz.pinned.checked.prog Rows.configProvidersRow.origin Rows.configProvidersRow.targs := of_decide_eq_true (by kernel_rfl)
theorem wrap : Tryz.f3.isWrapper Tryz.pinned.checked.prog Rows.configProvidersRow.wrapper Rows.configProvidersRow.mainSum := by
  unfold Func.isWrapper
  first | (rw [if_pos (by decide +kernel)]; kernel_rfl) | (rw [if_neg (by decide +kernel)]; exact ⟨rfl, rfl⟩)
end Go.Proofs.YtjeagjpfgilkdaaGreatDoor
