/- slices.Clone, run. -/
import Derived.Test.YtdnhhdplcminlaaGreatDoorAiClone
set_option maxHeartbeats 1000000
set_option maxRecDepth 100000
set_option linter.unusedVariables false
set_option linter.unusedSimpArgs false
set_option linter.unusedSectionVars false
namespace Go.Proofs.YtdnhhdplcminlaaGreatDoor.AI
variable [Nu]
theorem nil67 (o : BinOp → Tm → Tm → Option Bool) (h : Heap) : bodyOf Tryz.prog (cfgB o) (exec Tryz.prog (cfgB o) 20) 67 [.nilsl] h = some (.tk 0 0 [], h) := by kernel_rfl
theorem se67 (o : BinOp → Tm → Tm → Option Bool) (h : Heap) : bodyOf Tryz.prog (cfgB o) (exec Tryz.prog (cfgB o) 20) 67 [.se] h = some (.sl true 0 [], h) := by kernel_rfl
theorem n67 (o : BinOp → Tm → Tm → Option Bool) (n : Nat) (cs : List AV) (h : Heap) (Q : AV → Heap → Prop) : BodyP Tryz.prog (cfgB o) ⟨false, 0⟩ 67 [.sl false (n + 1) cs] h Q =
  ∃ (h' : Heap) (id off m c : Nat), aAppend Tryz.prog true #[23, 23] h (.sl true 0 []) (.sl false (n + 1) cs) = some (.heap h' (.ms id off m c)) ∧ Q (.ms id off m c) h' := by kernel_rfl
theorem nil68 (o : BinOp → Tm → Tm → Option Bool) (h : Heap) : bodyOf Tryz.prog (cfgB o) (exec Tryz.prog (cfgB o) 20) 68 [.nilsl] h = some (.tk 0 0 [], h) := by kernel_rfl
theorem se68 (o : BinOp → Tm → Tm → Option Bool) (h : Heap) : bodyOf Tryz.prog (cfgB o) (exec Tryz.prog (cfgB o) 20) 68 [.se] h = some (.sl true 0 [], h) := by kernel_rfl
theorem n68 (o : BinOp → Tm → Tm → Option Bool) (n : Nat) (cs : List AV) (h : Heap) (Q : AV → Heap → Prop) : BodyP Tryz.prog (cfgB o) ⟨false, 0⟩ 68 [.sl false (n + 1) cs] h Q =
  ∃ (h' : Heap) (id off m c : Nat), aAppend Tryz.prog true #[24, 24] h (.sl true 0 []) (.sl false (n + 1) cs) = some (.heap h' (.ms id off m c)) ∧ Q (.ms id off m c) h' := by kernel_rfl
theorem nil32 : callerOf Tryz.prog cfgA (exec Tryz.prog cfgA 20) 32 [.nilsl] [] = some (.nilsl, []) := by kernel_rfl
theorem se32 : callerOf Tryz.prog cfgA (exec Tryz.prog cfgA 20) 32 [.se] [] = some (.sl true 0 [], []) := by kernel_rfl
theorem n32 (o : BinOp → Tm → Tm → Option Bool) (n : Nat) (cs : List AV) (Q : AV → Prop) : BodyP Tryz.prog (cfgB o) ⟨false, 0⟩ 32 [.sl false (n + 1) cs] [] (retE Q) =
  ((n + 1 = 0 → aAppend Tryz.prog false #[22, 22] [] (.sl true 0 []) (.sl false (n + 1) cs) = some (.val (.sl true 0 [])) ∧ retE Q (.sl true 0 []) []) ∧
  (n + 1 ≠ 0 → ∃ (h' : Heap) (id : Nat), aAppend Tryz.prog false #[22, 22] [] (.sl true 0 []) (.sl false (n + 1) cs) = some (.heap h' (.tk id (0 + (n + 1)) ([] ++ cs))) ∧ retE Q (.tk id (0 + (n + 1)) ([] ++ cs)) h')) := by kernel_rfl
end Go.Proofs.YtdnhhdplcminlaaGreatDoor.AI
