/- Whatever the two whole numbers, quotients are rounded down, with a remainder that fits: the law answers true, and its arguments read as they did; the three tables that it reads are tied to the program's text. -/
import Derived.Test.YtdnhhdplcminlaaGreatDoorDividesRow
import Derived.Test.YtdnhhdplcminlaaGreatDoorCards
import Derived.Test.YtdnhhdplcminlaaGreatDoorTie
import Derived.SevenTiedAt
set_option maxHeartbeats 400000
set_option linter.unusedVariables false
set_option linter.unusedSimpArgs false
set_option linter.unusedSectionVars false
namespace Go.Proofs.YtdnhhdplcminlaaGreatDoor
open Go

theorem exprDivides_card : Rows.ExprDividesCardSaid :=
  Claim7.holds_tied_plain_at .later [] [.data, .data, .pinned] true (true, "abda8219256ff6772f84c17d9454826a79e703d503ec972aa25b0e7b47e3c149") false
    divides_holds (fun _ h => by cases h) (by kernel_rfl) (fun _ h => by cases h) exprDivides_row_tie rfl ⟨rfl, rfl⟩ (by kernel_rfl) rfl
    (fun f fn hf hfn => by
      obtain rfl : f = 8 := Option.some.inj ((show Tryz.prog.funcNamed "docstore/docstorelaw08.ExprDivides" = some 8 by kernel_rfl).symm.trans hf) |>.symm
      obtain rfl : fn = Tryz.f8 := (Option.some.inj (Tryz.func8.symm.trans hfn)).symm
      exact ⟨by kernel_rfl, fun j t ht => by
        rw [Tryz.params8] at ht
        have h3 : t = 3 := by
          rcases j with _ | _ | j
          · simpa using ht.symm
          · simpa using ht.symm
          · simp at ht
        subst h3
        exact (show Tryz.prog.wantsStandIn 3 = false by kernel_rfl)⟩)
    (by kernel_rfl)
#print axioms exprDivides_card
end Go.Proofs.YtdnhhdplcminlaaGreatDoor
