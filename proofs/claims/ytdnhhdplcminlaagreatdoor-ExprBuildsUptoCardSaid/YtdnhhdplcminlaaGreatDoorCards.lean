/-
  DERIVED. GIVEN WITH THE SEED: THE CARDS: each row of YtdnhhdplcminlaaGreatDoorRows.lean that lists a variable, with what it lists TIED to the program's text (the seventh form; the later family's looks); each row that meets fmt, with fmt's text TOLD by the authors' own Lean function (tested against real Go, not proved from fmt's source: count such statements apart). THE CARD IS WHAT COUNTS. Prove the row's statement (the work); the ties are given (YtdnhhdplcminlaaGreatDoorTie.lean); close each card by the builder's one call (the guide's Derived/Test/ToyasCard.lean, 'card_holds'). Laid BY PROGRAM, IN A SANDBOX (cutbox-door.mjs). By AI agents, Wed Nov 11 2026. No macro, syntax, notation, axiom, sorry.
-/
import Derived.Test.YtdnhhdplcminlaaGreatDoorRows
import GoSem.ClaimSeven
namespace Go.Proofs.YtdnhhdplcminlaaGreatDoor
namespace Rows

/-- THE TIED CARD OF 'docstorelaw08.ExprChecks'. -/
def exprChecksCard : Claim7 := { stood := { row := exprChecksRow, standIns := [], harness := (true, "abda8219256ff6772f84c17d9454826a79e703d503ec972aa25b0e7b47e3c149"), looks := false }, kinds := [], alts := [], laidByText := true, laidKinds := [.data, .data, .pinned], laidTests := true, laidLooks := .later }
def ExprChecksCardSaid : Prop := Claim7.holds Tryz.pinned (.plain (OpenSpec.ofChange exprChecksSpec)) exprChecksCard

/-- THE TIED CARD OF 'docstorelaw08.ExprParses'. -/
def exprParsesCard : Claim7 := { stood := { row := exprParsesRow, standIns := [], harness := (true, "abda8219256ff6772f84c17d9454826a79e703d503ec972aa25b0e7b47e3c149"), looks := false }, kinds := [], alts := [], laidByText := true, laidKinds := [.data, .data, .pinned], laidTests := true, laidLooks := .later }
def ExprParsesCardSaid : Prop := Claim7.holds Tryz.pinned (.plain (OpenSpec.ofChange exprParsesSpec)) exprParsesCard

/-- THE TIED CARD OF 'docstorelaw08.ExprBuilds'. -/
def exprBuildsCard : Claim7 := { stood := { row := exprBuildsRow, standIns := [], harness := (true, "abda8219256ff6772f84c17d9454826a79e703d503ec972aa25b0e7b47e3c149"), looks := false }, kinds := [], alts := [], laidByText := true, laidKinds := [.data, .data, .pinned], laidTests := true, laidLooks := .later }
def ExprBuildsCardSaid : Prop := Claim7.holds Tryz.pinned (.plain (OpenSpec.ofChange exprBuildsSpec)) exprBuildsCard

/-- THE TIED CARD OF 'docstorelaw08.ExprBack'. -/
def exprBackCard : Claim7 := { stood := { row := exprBackRow, standIns := [], harness := (true, "abda8219256ff6772f84c17d9454826a79e703d503ec972aa25b0e7b47e3c149"), looks := false }, kinds := [], alts := [], laidByText := true, laidKinds := [.data, .data, .pinned], laidTests := true, laidLooks := .later }
def ExprBackCardSaid : Prop := Claim7.holds Tryz.pinned (.plain (OpenSpec.ofChange exprBackSpec)) exprBackCard

/-- THE TIED CARD OF 'docstorelaw08.ExprAgain'. -/
def exprAgainCard : Claim7 := { stood := { row := exprAgainRow, standIns := [], harness := (true, "abda8219256ff6772f84c17d9454826a79e703d503ec972aa25b0e7b47e3c149"), looks := false }, kinds := [], alts := [], laidByText := true, laidKinds := [.data, .data, .pinned], laidTests := true, laidLooks := .later }
def ExprAgainCardSaid : Prop := Claim7.holds Tryz.pinned (.plain (OpenSpec.ofChange exprAgainSpec)) exprAgainCard

/-- THE TIED CARD OF 'docstorelaw08.ExprDivides'. -/
def exprDividesCard : Claim7 := { stood := { row := exprDividesRow, standIns := [], harness := (true, "abda8219256ff6772f84c17d9454826a79e703d503ec972aa25b0e7b47e3c149"), looks := false }, kinds := [], alts := [], laidByText := true, laidKinds := [.data, .data, .pinned], laidTests := true, laidLooks := .later }
def ExprDividesCardSaid : Prop := Claim7.holds Tryz.pinned (.plain (OpenSpec.ofChange exprDividesSpec)) exprDividesCard

/-- THE SECOND FORM's CARD OF 'docstorelaw08.ExprChecks'. -/
def exprChecksUptoCard : Claim7 := { stood := { row := exprChecksUptoRow, standIns := [], harness := (true, "abda8219256ff6772f84c17d9454826a79e703d503ec972aa25b0e7b47e3c149"), looks := false }, kinds := [], alts := [], laidByText := true, laidKinds := [.data, .data, .pinned], laidTests := true, laidLooks := .later }
def ExprChecksUptoCardSaid : Prop := Claim7.holds Tryz.pinned (.plain (OpenSpec.upto exprChecksSpec)) exprChecksUptoCard

/-- THE SECOND FORM's CARD OF 'docstorelaw08.ExprParses'. -/
def exprParsesUptoCard : Claim7 := { stood := { row := exprParsesUptoRow, standIns := [], harness := (true, "abda8219256ff6772f84c17d9454826a79e703d503ec972aa25b0e7b47e3c149"), looks := false }, kinds := [], alts := [], laidByText := true, laidKinds := [.data, .data, .pinned], laidTests := true, laidLooks := .later }
def ExprParsesUptoCardSaid : Prop := Claim7.holds Tryz.pinned (.plain (OpenSpec.upto exprParsesSpec)) exprParsesUptoCard

/-- THE SECOND FORM's CARD OF 'docstorelaw08.ExprBuilds'. -/
def exprBuildsUptoCard : Claim7 := { stood := { row := exprBuildsUptoRow, standIns := [], harness := (true, "abda8219256ff6772f84c17d9454826a79e703d503ec972aa25b0e7b47e3c149"), looks := false }, kinds := [], alts := [], laidByText := true, laidKinds := [.data, .data, .pinned], laidTests := true, laidLooks := .later }
def ExprBuildsUptoCardSaid : Prop := Claim7.holds Tryz.pinned (.plain (OpenSpec.upto exprBuildsSpec)) exprBuildsUptoCard

/-- THE SECOND FORM's CARD OF 'docstorelaw08.ExprBack'. -/
def exprBackUptoCard : Claim7 := { stood := { row := exprBackUptoRow, standIns := [], harness := (true, "abda8219256ff6772f84c17d9454826a79e703d503ec972aa25b0e7b47e3c149"), looks := false }, kinds := [], alts := [], laidByText := true, laidKinds := [.data, .data, .pinned], laidTests := true, laidLooks := .later }
def ExprBackUptoCardSaid : Prop := Claim7.holds Tryz.pinned (.plain (OpenSpec.upto exprBackSpec)) exprBackUptoCard

/-- THE SECOND FORM's CARD OF 'docstorelaw08.ExprAgain'. -/
def exprAgainUptoCard : Claim7 := { stood := { row := exprAgainUptoRow, standIns := [], harness := (true, "abda8219256ff6772f84c17d9454826a79e703d503ec972aa25b0e7b47e3c149"), looks := false }, kinds := [], alts := [], laidByText := true, laidKinds := [.data, .data, .pinned], laidTests := true, laidLooks := .later }
def ExprAgainUptoCardSaid : Prop := Claim7.holds Tryz.pinned (.plain (OpenSpec.upto exprAgainSpec)) exprAgainUptoCard

/-- THE SECOND FORM's CARD OF 'docstorelaw08.ExprDivides'. -/
def exprDividesUptoCard : Claim7 := { stood := { row := exprDividesUptoRow, standIns := [], harness := (true, "abda8219256ff6772f84c17d9454826a79e703d503ec972aa25b0e7b47e3c149"), looks := false }, kinds := [], alts := [], laidByText := true, laidKinds := [.data, .data, .pinned], laidTests := true, laidLooks := .later }
def ExprDividesUptoCardSaid : Prop := Claim7.holds Tryz.pinned (.plain (OpenSpec.upto exprDividesSpec)) exprDividesUptoCard
end Rows
end Go.Proofs.YtdnhhdplcminlaaGreatDoor
