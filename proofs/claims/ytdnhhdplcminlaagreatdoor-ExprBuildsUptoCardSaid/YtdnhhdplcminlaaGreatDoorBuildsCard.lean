/- Whatever the expression (of bulk at most 2^20), both builds agree: the law answers true, and its argument reads as it did; the three tables that it reads are tied to the program's text. -/
import Derived.Test.YtdnhhdplcminlaaGreatDoorBuildsRow
import Derived.Test.YtdnhhdplcminlaaGreatDoorCards
import Derived.Test.YtdnhhdplcminlaaGreatDoorTie
import Derived.SevenTiedAt
set_option maxHeartbeats 400000
set_option linter.unusedVariables false
set_option linter.unusedSimpArgs false
set_option linter.unusedSectionVars false
namespace Go.Proofs.YtdnhhdplcminlaaGreatDoor
open Go

theorem exprBuildsUpto_card : Rows.ExprBuildsUptoCardSaid :=
  Claim7.holds_tied_plain_at .later [] _ _ _ _ builds_holds (fun _ h => by cases h) (by kernel_rfl) (fun _ h => by cases h) exprBuildsUpto_row_tie rfl ⟨rfl, rfl⟩ (by kernel_rfl) rfl
    (fun f fn hf hfn => by
      obtain rfl : f = 5 := Option.some.inj ((show Tryz.prog.funcNamed "docstore/docstorelaw08.ExprBuilds" = some 5 by kernel_rfl).symm.trans hf) |>.symm
      obtain rfl : fn = Tryz.f5 := (Option.some.inj (Tryz.func5.symm.trans hfn)).symm
      exact ⟨by kernel_rfl, fun j t ht => by
        rw [Tryz.params5] at ht
        have h3 : t = 29 := by
          rcases j with _ | j
          · simpa using ht.symm
          · simp at ht
        subst h3
        exact (show Tryz.prog.wantsStandIn 29 = false by kernel_rfl)⟩)
    (by kernel_rfl)
#print axioms exprBuildsUpto_card
end Go.Proofs.YtdnhhdplcminlaaGreatDoor
