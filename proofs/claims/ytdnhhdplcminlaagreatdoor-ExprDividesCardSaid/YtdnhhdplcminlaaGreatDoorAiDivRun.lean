/- The law of quotients, run for each kind of dividend and divisor. -/
import Derived.Test.YtdnhhdplcminlaaGreatDoorAiDivDef
import Derived.KernelRfl
set_option maxHeartbeats 400000
set_option linter.unusedVariables false
set_option linter.unusedSimpArgs false
set_option linter.unusedSectionVars false
namespace Go.Proofs.YtdnhhdplcminlaaGreatDoor.AI
theorem divides_A : divides caseA = some (.bool true, []) := by kernel_rfl
theorem divides_B : divides caseB = some (.bool true, []) := by kernel_rfl
theorem divides_C0 : divides (caseC false) = some (.bool true, []) := by kernel_rfl
theorem divides_C1 : divides (caseC true) = some (.bool true, []) := by kernel_rfl
theorem divides_D0 : divides (caseD false) = some (.bool true, []) := by kernel_rfl
theorem divides_D1 : divides (caseD true) = some (.bool true, []) := by kernel_rfl
theorem divides_E0 : divides (caseE false) = some (.bool true, []) := by kernel_rfl
theorem divides_E1 : divides (caseE true) = some (.bool true, []) := by kernel_rfl
end Go.Proofs.YtdnhhdplcminlaaGreatDoor.AI
