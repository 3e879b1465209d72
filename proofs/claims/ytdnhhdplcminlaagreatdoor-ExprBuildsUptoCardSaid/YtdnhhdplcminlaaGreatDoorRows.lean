/-
  NARROWER THAN 'FOR EVERY INPUT', by the rows' own cells (each row's printed sentence says how): ExprChecks: loops, laid · ExprParses: loops, laid · ExprBuilds: loops, laid · ExprBack: loops, laid · ExprAgain: loops, laid · ExprDivides: laid.
  DERIVED. THE GIVEN ROWS OF THIS SEAT. 6 by the template 'for every input the law returns true; each argument reads behind the call as it read before'; 0 by the template 'total and deterministic' (their statements: YtdnhhdplcminlaaGreatDoorTotals.lean).
  GIVEN WITH THE SEED: the statements are not yours to turn. If you find one false, say at which input.
  Laid BY PROGRAM, IN A SANDBOX (cutbox-rows.mjs): the forced cells as the released guide's own fill.sh prints them over the translation 7f03e528a4a30c85… (all of the seat's roots in one cut). By AI agents, Wed Nov 11 2026. No macro, syntax, notation, axiom, sorry.
-/
import Derived.Test.YtdnhhdplcminlaaGreatDoorChecked
import GoSem.PinnedTables
import GoSem.Claim
import GoSem.ClaimJoined
import GoSem.ClaimMapViews
import Derived.JoinedTies
import Derived.KernelRfl
namespace Go.Proofs.YtdnhhdplcminlaaGreatDoor
/- THE CELL 'sum', in the pinned program and in every row, IS THE sha256 OF THE DUMP (.gsa) THAT YtdnhhdplcminlaaGreatDoorProg.lean LOADS. Nothing in Lean hashes anything: it is a label: what it is worth is what the hold of that sum in a sandbox is worth. -/
noncomputable def Tryz.pinned : Pinned := { name := "ytdnhhdplcminlaagreatdoor", sum := "7f03e528a4a30c85a06906ce24bd1d2a17c0901f5acf006422677a599795490a", checked := Tryz.checked }
namespace Rows
def none {H : Type} : Left H := { results := [], args := [] }

/- WHAT THE LISTED PACKAGE-LEVEL VARIABLES READ AS WHEN THE CALL BEGINS. Each datum BY PROGRAM (the guide's laid-datum.mjs) off the statement by which the dump's own 'gosem.cut.vars' lays the variable. In a bare row this is a premise. The card (YtdnhhdplcminlaaGreatDoorCards.lean) ties it to the program's text. -/
def laid_unicode_utf8_acceptRanges {H : Type} : DataW H := .agg [.agg [.lit (.int .u8 128), .lit (.int .u8 191)], .agg [.lit (.int .u8 160), .lit (.int .u8 191)], .agg [.lit (.int .u8 128), .lit (.int .u8 159)], .agg [.lit (.int .u8 144), .lit (.int .u8 191)], .agg [.lit (.int .u8 128), .lit (.int .u8 143)], .agg [.lit (.int .u8 0), .lit (.int .u8 0)], .agg [.lit (.int .u8 0), .lit (.int .u8 0)], .agg [.lit (.int .u8 0), .lit (.int .u8 0)], .agg [.lit (.int .u8 0), .lit (.int .u8 0)], .agg [.lit (.int .u8 0), .lit (.int .u8 0)], .agg [.lit (.int .u8 0), .lit (.int .u8 0)], .agg [.lit (.int .u8 0), .lit (.int .u8 0)], .agg [.lit (.int .u8 0), .lit (.int .u8 0)], .agg [.lit (.int .u8 0), .lit (.int .u8 0)], .agg [.lit (.int .u8 0), .lit (.int .u8 0)], .agg [.lit (.int .u8 0), .lit (.int .u8 0)]]
def laid_docstore_expr_operators {H : Type} : DataW H := .agg [.agg [.lit (.string []), .lit (.int .i64 0)], .agg [.lit (.string [36, 118, 97, 108, 117, 101]), .lit (.int .i64 1)], .agg [.lit (.string []), .lit (.int .i64 1)], .agg [.lit (.string []), .lit (.int .i64 1)], .agg [.lit (.string [36, 97, 100, 100]), .lit (.int .i64 6)], .agg [.lit (.string [36, 115, 117, 98]), .lit (.int .i64 3)], .agg [.lit (.string [36, 109, 117, 108]), .lit (.int .i64 6)], .agg [.lit (.string [36, 100, 105, 118]), .lit (.int .i64 3)], .agg [.lit (.string [36, 109, 111, 100]), .lit (.int .i64 3)], .agg [.lit (.string [36, 99, 109, 112]), .lit (.int .i64 3)], .agg [.lit (.string [36, 101, 113]), .lit (.int .i64 3)], .agg [.lit (.string [36, 110, 101]), .lit (.int .i64 3)], .agg [.lit (.string [36, 103, 116]), .lit (.int .i64 3)], .agg [.lit (.string [36, 103, 101]), .lit (.int .i64 3)], .agg [.lit (.string [36, 108, 116]), .lit (.int .i64 3)], .agg [.lit (.string [36, 108, 101]), .lit (.int .i64 3)], .agg [.lit (.string [36, 97, 110, 100]), .lit (.int .i64 6)], .agg [.lit (.string [36, 111, 114]), .lit (.int .i64 6)], .agg [.lit (.string [36, 110, 111, 116]), .lit (.int .i64 2)], .agg [.lit (.string [36, 105, 102]), .lit (.int .i64 4)], .agg [.lit (.string [36, 105, 102, 78, 117, 108, 108]), .lit (.int .i64 3)], .agg [.lit (.string [36, 99, 111, 110, 99, 97, 116]), .lit (.int .i64 6)], .agg [.lit (.string [36, 108, 111, 119, 101, 114]), .lit (.int .i64 2)], .agg [.lit (.string [36, 117, 112, 112, 101, 114]), .lit (.int .i64 2)], .agg [.lit (.string [36, 108, 101, 110, 103, 116, 104]), .lit (.int .i64 2)], .agg [.lit (.string [36, 115, 108, 105, 99, 101]), .lit (.int .i64 4)], .agg [.lit (.string [36, 115, 105, 122, 101]), .lit (.int .i64 2)], .agg [.lit (.string [36, 97, 116]), .lit (.int .i64 3)], .agg [.lit (.string [36, 105, 110]), .lit (.int .i64 3)], .agg [.lit (.string [36, 106, 111, 105, 110]), .lit (.int .i64 6)], .agg [.lit (.string [36, 114, 101, 118, 101, 114, 115, 101]), .lit (.int .i64 2)], .agg [.lit (.string [36, 115, 117, 109]), .lit (.int .i64 2)], .agg [.lit (.string [36, 109, 97, 112]), .lit (.int .i64 5)], .agg [.lit (.string [36, 102, 105, 108, 116, 101, 114]), .lit (.int .i64 5)], .agg [.lit (.string []), .lit (.int .i64 7)], .agg [.lit (.string []), .lit (.int .i64 6)], .agg [.lit (.string [36, 107, 105, 110, 100]), .lit (.int .i64 2)], .agg [.lit (.string [36, 109, 101, 114, 103, 101]), .lit (.int .i64 6)]]
/-- One of Go's own tables, pinned by name: the form's constant. -/
def laid_unicode_utf8_first : DataW Unit := Go.Pinned.utf8First

/-- 'docstorelaw08.ExprChecks': WHATEVER THE INPUT: true; the input reads as it did. -/
def exprChecksSpec : ChangeSpec := { name := "exprChecks", fn := fun _ => fun
  | [d] => { results := [.lit (.bool true)], args := [d] }
  | _ => none }
def exprChecksRow : OpenClaim := { program := "ytdnhhdplcminlaagreatdoor", sum := "7f03e528a4a30c85a06906ce24bd1d2a17c0901f5acf006422677a599795490a", func := "docstore/docstorelaw08.ExprChecks", spec := "exprChecks", inPlace := ["internal/bytealg.CountString", "internal/bytealg.IndexByteString", "internal/bytealg.IndexString", "internal/bytealg.abigen_runtime_cmpstring", "internal/abi.NoEscape", "internal/bytealg.MakeNoZero"], unfollowed := true, recurses := true, named := ["unicode/utf8.first", "unicode/utf8.acceptRanges", "internal/bytealg.MaxLen", "docstore/expr.operators"], loops := true, apart := false, laid := [("unicode/utf8.acceptRanges", laid_unicode_utf8_acceptRanges), ("docstore/expr.operators", laid_docstore_expr_operators), ("unicode/utf8.first", laid_unicode_utf8_first)] }
def ExprChecksSaid : Prop := exprChecksRow.holds Tryz.pinned (OpenSpec.ofChange exprChecksSpec)

/-- ITS FALSE NEIGHBOUR: 'it returns false'. Refute it at one input. -/
def exprChecksWrong : ChangeSpec := { name := "exprChecks", fn := fun _ => fun
  | [d] => { results := [.lit (.bool false)], args := [d] }
  | _ => none }
def ExprChecksWrongFalsely : Prop := exprChecksRow.holds Tryz.pinned (OpenSpec.ofChange exprChecksWrong)

/-- 'docstorelaw08.ExprParses': WHATEVER THE INPUT: true; the input reads as it did. -/
def exprParsesSpec : ChangeSpec := { name := "exprParses", fn := fun _ => fun
  | [d] => { results := [.lit (.bool true)], args := [d] }
  | _ => none }
def exprParsesRow : OpenClaim := { program := "ytdnhhdplcminlaagreatdoor", sum := "7f03e528a4a30c85a06906ce24bd1d2a17c0901f5acf006422677a599795490a", func := "docstore/docstorelaw08.ExprParses", spec := "exprParses", inPlace := ["internal/bytealg.CountString", "internal/bytealg.IndexByteString", "internal/bytealg.IndexString", "internal/bytealg.abigen_runtime_cmpstring", "internal/abi.NoEscape", "internal/bytealg.MakeNoZero"], unfollowed := true, recurses := true, named := ["unicode/utf8.first", "unicode/utf8.acceptRanges", "internal/bytealg.MaxLen", "docstore/expr.operators"], loops := true, apart := false, laid := [("unicode/utf8.acceptRanges", laid_unicode_utf8_acceptRanges), ("docstore/expr.operators", laid_docstore_expr_operators), ("unicode/utf8.first", laid_unicode_utf8_first)] }
def ExprParsesSaid : Prop := exprParsesRow.holds Tryz.pinned (OpenSpec.ofChange exprParsesSpec)

/-- ITS FALSE NEIGHBOUR: 'it returns false'. Refute it at one input. -/
def exprParsesWrong : ChangeSpec := { name := "exprParses", fn := fun _ => fun
  | [d] => { results := [.lit (.bool false)], args := [d] }
  | _ => none }
def ExprParsesWrongFalsely : Prop := exprParsesRow.holds Tryz.pinned (OpenSpec.ofChange exprParsesWrong)

/-- 'docstorelaw08.ExprBuilds': WHATEVER THE INPUT: true; the input reads as it did. -/
def exprBuildsSpec : ChangeSpec := { name := "exprBuilds", fn := fun _ => fun
  | [d] => { results := [.lit (.bool true)], args := [d] }
  | _ => none }
def exprBuildsRow : OpenClaim := { program := "ytdnhhdplcminlaagreatdoor", sum := "7f03e528a4a30c85a06906ce24bd1d2a17c0901f5acf006422677a599795490a", func := "docstore/docstorelaw08.ExprBuilds", spec := "exprBuilds", inPlace := ["internal/bytealg.CountString", "internal/bytealg.IndexByteString", "internal/bytealg.IndexString", "internal/bytealg.abigen_runtime_cmpstring", "internal/abi.NoEscape", "internal/bytealg.MakeNoZero"], unfollowed := true, recurses := true, named := ["unicode/utf8.first", "unicode/utf8.acceptRanges", "internal/bytealg.MaxLen", "docstore/expr.operators"], loops := true, apart := false, laid := [("unicode/utf8.acceptRanges", laid_unicode_utf8_acceptRanges), ("docstore/expr.operators", laid_docstore_expr_operators), ("unicode/utf8.first", laid_unicode_utf8_first)] }
def ExprBuildsSaid : Prop := exprBuildsRow.holds Tryz.pinned (OpenSpec.ofChange exprBuildsSpec)

/-- ITS FALSE NEIGHBOUR: 'it returns false'. Refute it at one input. -/
def exprBuildsWrong : ChangeSpec := { name := "exprBuilds", fn := fun _ => fun
  | [d] => { results := [.lit (.bool false)], args := [d] }
  | _ => none }
def ExprBuildsWrongFalsely : Prop := exprBuildsRow.holds Tryz.pinned (OpenSpec.ofChange exprBuildsWrong)

/-- 'docstorelaw08.ExprBack': WHATEVER THE INPUT: true; the input reads as it did. -/
def exprBackSpec : ChangeSpec := { name := "exprBack", fn := fun _ => fun
  | [d] => { results := [.lit (.bool true)], args := [d] }
  | _ => none }
def exprBackRow : OpenClaim := { program := "ytdnhhdplcminlaagreatdoor", sum := "7f03e528a4a30c85a06906ce24bd1d2a17c0901f5acf006422677a599795490a", func := "docstore/docstorelaw08.ExprBack", spec := "exprBack", inPlace := ["internal/bytealg.CountString", "internal/bytealg.IndexByteString", "internal/bytealg.IndexString", "internal/bytealg.abigen_runtime_cmpstring", "internal/abi.NoEscape", "internal/bytealg.MakeNoZero"], unfollowed := true, recurses := true, named := ["unicode/utf8.first", "unicode/utf8.acceptRanges", "internal/bytealg.MaxLen", "docstore/expr.operators"], loops := true, apart := false, laid := [("unicode/utf8.acceptRanges", laid_unicode_utf8_acceptRanges), ("docstore/expr.operators", laid_docstore_expr_operators), ("unicode/utf8.first", laid_unicode_utf8_first)] }
def ExprBackSaid : Prop := exprBackRow.holds Tryz.pinned (OpenSpec.ofChange exprBackSpec)

/-- ITS FALSE NEIGHBOUR: 'it returns false'. Refute it at one input. -/
def exprBackWrong : ChangeSpec := { name := "exprBack", fn := fun _ => fun
  | [d] => { results := [.lit (.bool false)], args := [d] }
  | _ => none }
def ExprBackWrongFalsely : Prop := exprBackRow.holds Tryz.pinned (OpenSpec.ofChange exprBackWrong)

/-- 'docstorelaw08.ExprAgain': WHATEVER THE INPUT: true; the input reads as it did. -/
def exprAgainSpec : ChangeSpec := { name := "exprAgain", fn := fun _ => fun
  | [d] => { results := [.lit (.bool true)], args := [d] }
  | _ => none }
def exprAgainRow : OpenClaim := { program := "ytdnhhdplcminlaagreatdoor", sum := "7f03e528a4a30c85a06906ce24bd1d2a17c0901f5acf006422677a599795490a", func := "docstore/docstorelaw08.ExprAgain", spec := "exprAgain", inPlace := ["internal/bytealg.CountString", "internal/bytealg.IndexByteString", "internal/bytealg.IndexString", "internal/bytealg.abigen_runtime_cmpstring", "internal/abi.NoEscape", "internal/bytealg.MakeNoZero"], unfollowed := true, recurses := true, named := ["unicode/utf8.first", "unicode/utf8.acceptRanges", "internal/bytealg.MaxLen", "docstore/expr.operators"], loops := true, apart := false, laid := [("unicode/utf8.acceptRanges", laid_unicode_utf8_acceptRanges), ("docstore/expr.operators", laid_docstore_expr_operators), ("unicode/utf8.first", laid_unicode_utf8_first)] }
def ExprAgainSaid : Prop := exprAgainRow.holds Tryz.pinned (OpenSpec.ofChange exprAgainSpec)

/-- ITS FALSE NEIGHBOUR: 'it returns false'. Refute it at one input. -/
def exprAgainWrong : ChangeSpec := { name := "exprAgain", fn := fun _ => fun
  | [d] => { results := [.lit (.bool false)], args := [d] }
  | _ => none }
def ExprAgainWrongFalsely : Prop := exprAgainRow.holds Tryz.pinned (OpenSpec.ofChange exprAgainWrong)

/-- 'docstorelaw08.ExprDivides': WHATEVER THE INPUT: true; the input reads as it did. -/
def exprDividesSpec : ChangeSpec := { name := "exprDivides", fn := fun _ => fun
  | [d1, d2] => { results := [.lit (.bool true)], args := [d1, d2] }
  | _ => none }
def exprDividesRow : OpenClaim := { program := "ytdnhhdplcminlaagreatdoor", sum := "7f03e528a4a30c85a06906ce24bd1d2a17c0901f5acf006422677a599795490a", func := "docstore/docstorelaw08.ExprDivides", spec := "exprDivides", inPlace := ["internal/bytealg.abigen_runtime_cmpstring", "internal/abi.NoEscape", "internal/bytealg.CountString", "internal/bytealg.IndexByteString", "internal/bytealg.IndexString", "internal/bytealg.MakeNoZero"], unfollowed := true, recurses := true, named := ["docstore/expr.operators", "unicode/utf8.first", "unicode/utf8.acceptRanges", "internal/bytealg.MaxLen"], apart := false, laid := [("unicode/utf8.acceptRanges", laid_unicode_utf8_acceptRanges), ("docstore/expr.operators", laid_docstore_expr_operators), ("unicode/utf8.first", laid_unicode_utf8_first)] }
def ExprDividesSaid : Prop := exprDividesRow.holds Tryz.pinned (OpenSpec.ofChange exprDividesSpec)

/-- ITS FALSE NEIGHBOUR: 'it returns false'. Refute it at one input. -/
def exprDividesWrong : ChangeSpec := { name := "exprDivides", fn := fun _ => fun
  | [d1, d2] => { results := [.lit (.bool false)], args := [d1, d2] }
  | _ => none }
def ExprDividesWrongFalsely : Prop := exprDividesRow.holds Tryz.pinned (OpenSpec.ofChange exprDividesWrong)

/- THE SECOND FORM. 'bulk': how many values and letters a reading holds, each counted each time it is reached (what is shared counts as often as it is met; a slice's spare places count too). A statement '..UptoSaid' is the law's where the arguments, and the package variables that the reading takes, are together of bulk at most 1048576: NARROWER than '..Said'. Prove '..Said' where nothing that the law and all that it calls make is longer than what came in: it says more and counts as full. Else prove '..UptoSaid'. A law counts once. -/
mutual
def uptoBulk {H : Type} : DataW H → Nat
  | .lit (.string bytes) => bytes.length + 1
  | .lit _ => 1
  | .nil => 1
  | .ptr d => uptoBulk d + 1
  | .slice elems spare => uptoBulkAll elems + uptoBulkAll spare + 1
  | .agg parts => uptoBulkAll parts + 1
  | .iface _ d => uptoBulk d + 1
  | .map entries => uptoBulkEntries entries + 1
  | .held _ => 1
def uptoBulkAll {H : Type} : List (DataW H) → Nat
  | [] => 0
  | d :: r => uptoBulk d + uptoBulkAll r
def uptoBulkEntries {H : Type} : List (Lit × DataW H) → Nat
  | [] => 0
  | x :: r => uptoBulkEntry x + uptoBulkEntries r
def uptoBulkEntry {H : Type} : Lit × DataW H → Nat
  | (.string bytes, d) => bytes.length + uptoBulk d + 1
  | (_, d) => uptoBulk d + 1
 end
def uptoSmall : (H : Type) → List (DataW H) → Bool := fun _ ds => decide (uptoBulkAll ds ≤ 1048576)
def OpenSpec.upto (s : _root_.Go.ChangeSpec) : _root_.Go.OpenSpec := { _root_.Go.OpenSpec.ofChange s with cond := some uptoSmall }

/-- 'docstorelaw08.ExprChecks', WHERE WHAT IT READS IS OF BULK AT MOST 1048576: true; the input reads as it did. -/
def exprChecksUptoRow : OpenClaim := { program := "ytdnhhdplcminlaagreatdoor", sum := "7f03e528a4a30c85a06906ce24bd1d2a17c0901f5acf006422677a599795490a", func := "docstore/docstorelaw08.ExprChecks", spec := "exprChecks", inPlace := ["internal/bytealg.CountString", "internal/bytealg.IndexByteString", "internal/bytealg.IndexString", "internal/bytealg.abigen_runtime_cmpstring", "internal/abi.NoEscape", "internal/bytealg.MakeNoZero"], unfollowed := true, recurses := true, named := ["unicode/utf8.first", "unicode/utf8.acceptRanges", "internal/bytealg.MaxLen", "docstore/expr.operators"], loops := true, apart := false, laid := [("unicode/utf8.acceptRanges", laid_unicode_utf8_acceptRanges), ("docstore/expr.operators", laid_docstore_expr_operators), ("unicode/utf8.first", laid_unicode_utf8_first)], narrowed := true }
def ExprChecksUptoSaid : Prop := exprChecksUptoRow.holds Tryz.pinned (OpenSpec.upto exprChecksSpec)

/-- 'docstorelaw08.ExprParses', WHERE WHAT IT READS IS OF BULK AT MOST 1048576: true; the input reads as it did. -/
def exprParsesUptoRow : OpenClaim := { program := "ytdnhhdplcminlaagreatdoor", sum := "7f03e528a4a30c85a06906ce24bd1d2a17c0901f5acf006422677a599795490a", func := "docstore/docstorelaw08.ExprParses", spec := "exprParses", inPlace := ["internal/bytealg.CountString", "internal/bytealg.IndexByteString", "internal/bytealg.IndexString", "internal/bytealg.abigen_runtime_cmpstring", "internal/abi.NoEscape", "internal/bytealg.MakeNoZero"], unfollowed := true, recurses := true, named := ["unicode/utf8.first", "unicode/utf8.acceptRanges", "internal/bytealg.MaxLen", "docstore/expr.operators"], loops := true, apart := false, laid := [("unicode/utf8.acceptRanges", laid_unicode_utf8_acceptRanges), ("docstore/expr.operators", laid_docstore_expr_operators), ("unicode/utf8.first", laid_unicode_utf8_first)], narrowed := true }
def ExprParsesUptoSaid : Prop := exprParsesUptoRow.holds Tryz.pinned (OpenSpec.upto exprParsesSpec)

/-- 'docstorelaw08.ExprBuilds', WHERE WHAT IT READS IS OF BULK AT MOST 1048576: true; the input reads as it did. -/
def exprBuildsUptoRow : OpenClaim := { program := "ytdnhhdplcminlaagreatdoor", sum := "7f03e528a4a30c85a06906ce24bd1d2a17c0901f5acf006422677a599795490a", func := "docstore/docstorelaw08.ExprBuilds", spec := "exprBuilds", inPlace := ["internal/bytealg.CountString", "internal/bytealg.IndexByteString", "internal/bytealg.IndexString", "internal/bytealg.abigen_runtime_cmpstring", "internal/abi.NoEscape", "internal/bytealg.MakeNoZero"], unfollowed := true, recurses := true, named := ["unicode/utf8.first", "unicode/utf8.acceptRanges", "internal/bytealg.MaxLen", "docstore/expr.operators"], loops := true, apart := false, laid := [("unicode/utf8.acceptRanges", laid_unicode_utf8_acceptRanges), ("docstore/expr.operators", laid_docstore_expr_operators), ("unicode/utf8.first", laid_unicode_utf8_first)], narrowed := true }
def ExprBuildsUptoSaid : Prop := exprBuildsUptoRow.holds Tryz.pinned (OpenSpec.upto exprBuildsSpec)

/-- 'docstorelaw08.ExprBack', WHERE WHAT IT READS IS OF BULK AT MOST 1048576: true; the input reads as it did. -/
def exprBackUptoRow : OpenClaim := { program := "ytdnhhdplcminlaagreatdoor", sum := "7f03e528a4a30c85a06906ce24bd1d2a17c0901f5acf006422677a599795490a", func := "docstore/docstorelaw08.ExprBack", spec := "exprBack", inPlace := ["internal/bytealg.CountString", "internal/bytealg.IndexByteString", "internal/bytealg.IndexString", "internal/bytealg.abigen_runtime_cmpstring", "internal/abi.NoEscape", "internal/bytealg.MakeNoZero"], unfollowed := true, recurses := true, named := ["unicode/utf8.first", "unicode/utf8.acceptRanges", "internal/bytealg.MaxLen", "docstore/expr.operators"], loops := true, apart := false, laid := [("unicode/utf8.acceptRanges", laid_unicode_utf8_acceptRanges), ("docstore/expr.operators", laid_docstore_expr_operators), ("unicode/utf8.first", laid_unicode_utf8_first)], narrowed := true }
def ExprBackUptoSaid : Prop := exprBackUptoRow.holds Tryz.pinned (OpenSpec.upto exprBackSpec)

/-- 'docstorelaw08.ExprAgain', WHERE WHAT IT READS IS OF BULK AT MOST 1048576: true; the input reads as it did. -/
def exprAgainUptoRow : OpenClaim := { program := "ytdnhhdplcminlaagreatdoor", sum := "7f03e528a4a30c85a06906ce24bd1d2a17c0901f5acf006422677a599795490a", func := "docstore/docstorelaw08.ExprAgain", spec := "exprAgain", inPlace := ["internal/bytealg.CountString", "internal/bytealg.IndexByteString", "internal/bytealg.IndexString", "internal/bytealg.abigen_runtime_cmpstring", "internal/abi.NoEscape", "internal/bytealg.MakeNoZero"], unfollowed := true, recurses := true, named := ["unicode/utf8.first", "unicode/utf8.acceptRanges", "internal/bytealg.MaxLen", "docstore/expr.operators"], loops := true, apart := false, laid := [("unicode/utf8.acceptRanges", laid_unicode_utf8_acceptRanges), ("docstore/expr.operators", laid_docstore_expr_operators), ("unicode/utf8.first", laid_unicode_utf8_first)], narrowed := true }
def ExprAgainUptoSaid : Prop := exprAgainUptoRow.holds Tryz.pinned (OpenSpec.upto exprAgainSpec)

/-- 'docstorelaw08.ExprDivides', WHERE WHAT IT READS IS OF BULK AT MOST 1048576: true; the input reads as it did. -/
def exprDividesUptoRow : OpenClaim := { program := "ytdnhhdplcminlaagreatdoor", sum := "7f03e528a4a30c85a06906ce24bd1d2a17c0901f5acf006422677a599795490a", func := "docstore/docstorelaw08.ExprDivides", spec := "exprDivides", inPlace := ["internal/bytealg.abigen_runtime_cmpstring", "internal/abi.NoEscape", "internal/bytealg.CountString", "internal/bytealg.IndexByteString", "internal/bytealg.IndexString", "internal/bytealg.MakeNoZero"], unfollowed := true, recurses := true, named := ["docstore/expr.operators", "unicode/utf8.first", "unicode/utf8.acceptRanges", "internal/bytealg.MaxLen"], apart := false, laid := [("unicode/utf8.acceptRanges", laid_unicode_utf8_acceptRanges), ("docstore/expr.operators", laid_docstore_expr_operators), ("unicode/utf8.first", laid_unicode_utf8_first)], narrowed := true }
def ExprDividesUptoSaid : Prop := exprDividesUptoRow.holds Tryz.pinned (OpenSpec.upto exprDividesSpec)

end Rows
end Go.Proofs.YtdnhhdplcminlaaGreatDoor
