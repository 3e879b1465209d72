/- The small case at each law's head, run. -/
import Derived.Test.YtdnhhdplcminlaaGreatDoorAiOk
import Derived.KernelRfl
set_option maxHeartbeats 400000
set_option linter.unusedVariables false
namespace Go.Proofs.YtdnhhdplcminlaaGreatDoor.AI
theorem awake_run : callerOf Tryz.prog cfgA (exec Tryz.prog cfgA 20000) 10 [] [] = some (.bool true, []) := by kernel_rfl
end Go.Proofs.YtdnhhdplcminlaaGreatDoor.AI
