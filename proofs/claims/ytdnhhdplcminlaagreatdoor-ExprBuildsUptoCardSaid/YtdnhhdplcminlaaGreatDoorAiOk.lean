/- The tables fit the program. -/
import Derived.Test.YtdnhhdplcminlaaGreatDoorAiPrimOk
import Derived.Test.YtdnhhdplcminlaaGreatDoorAiCfg
import Derived.Test.YtdnhhdplcminlaaGreatDoorChecked
import Derived.KernelRfl
set_option maxHeartbeats 400000
set_option linter.unusedVariables false
set_option linter.unusedSimpArgs false
set_option linter.unusedSectionVars false
namespace Go.Proofs.YtdnhhdplcminlaaGreatDoor.AI
variable [Nu]

theorem enters_ok {P : Program} {G : Cfg} {f : FuncId} (h : fnOk P G f = true) : Enters P f := by
  unfold fnOk at h
  split at h <;> try cases h
  rename_i fn hfn
  split at h <;> try cases h
  rename_i c hc
  simp only [Bool.and_eq_true, decide_eq_true_eq, Bool.not_eq_true', beq_eq_false_iff_ne, ne_eq] at h
  intro cargs W
  simp [callFunc, hfn, h.2, hc]

theorem good_all (o : BinOp → Tm → Tm → Option Bool) : goodT.all (fun f => fnOk Tryz.prog (cfgB o) f) = true := by kernel_rfl

theorem good_ok (o : BinOp → Tm → Tm → Option Bool) (f : FuncId) (h : (cfgB o).good f = true) : fnOk Tryz.prog (cfgB o) f = true := by
  have hm : f ∈ goodT := by simpa [cfgB] using h
  exact List.all_eq_true.1 (good_all o) f hm

/-- A cell that holds no mark of the heap. -/
def flat : AV → Bool
  | .undef | .bool _ | .int _ _ | .str _ | .nilp | .nilmap | .nilfn | .nilif => true
  | _ => false
theorem flat_erase : ∀ (cs : List AV), cs.all flat = true → eraseL false noRes cs = some cs
  | [], _ => rfl
  | v :: cs, h => by
    simp only [List.all_cons, Bool.and_eq_true] at h
    have ih := flat_erase cs h.2
    have hv : eraseW false noRes v = some v := by
      have := h.1
      cases v <;> first | rfl | (simp [flat] at this)
    simp [eraseL, hv, ih]

theorem glob_flat : [0, 2, 3].all (fun g => match globT g with | some cs => cs.all flat | none => true) = true := by decide +kernel
theorem glob_ok (o : BinOp → Tm → Tm → Option Bool) : GlobOk (cfgB o) := by
  intro g cs h
  have hg : globT g = some cs := h
  have hall := List.all_eq_true.1 glob_flat
  have : g = 0 ∨ g = 2 ∨ g = 3 := by
    unfold globT at hg
    split at hg <;> first | (cases hg; done) | simp
  have hq := hall g (by rcases this with rfl | rfl | rfl <;> simp)
  rw [hg] at hq
  exact flat_erase cs hq

theorem cfgB_ok {o : BinOp → Tm → Tm → Option Bool} (O : OraOk (cfgB o)) : CfgOk Tryz.prog (cfgB o) := by
  refine ⟨good_ok o, glob_ok o, Tryz.lays138.mixed, O, fun g p args v hp h => ?_, fun g p args h v h' hp => by cases hp⟩
  have hl : primT.lookup g = some p := hp
  have hi : (cfgB o).ints 1 = true := by kernel_rfl
  have e58 := enters_ok (good_ok o 58 (by kernel_rfl))
  have e144 := enters_ok (good_ok o 144 (by kernel_rfl))
  have e145 := enters_ok (good_ok o 145 (by kernel_rfl))
  by_cases h1 : g = 58
  · subst h1
    have : p = pJoin := by simpa [primT, List.lookup] using hl.symm
    subst this
    exact join_plain e58 Tryz.strings_Join_none Tryz.strings_Join h
  by_cases h2 : g = 144
  · subst h2
    have : p = pCount := by simpa [primT, List.lookup] using hl.symm
    subst this
    exact count_plain e144 Tryz.strings_Count_one h
  by_cases h3 : g = 145
  · subst h3
    have : p = pSplit := by simpa [primT, List.lookup] using hl.symm
    subst this
    exact split_plain e145 hi Tryz.strings_Split h
  · exfalso
    have a1 : (g == 58) = false := by simpa using h1
    have a2 : (g == 144) = false := by simpa using h2
    have a3 : (g == 145) = false := by simpa using h3
    simp [primT, List.lookup, a1, a2, a3] at hl
end Go.Proofs.YtdnhhdplcminlaaGreatDoor.AI
