/- Functions of Go's library that are told by Lean functions. Definitions alone. -/
import Derived.Test.YtdnhhdplcminlaaGreatDoorAiDef
set_option maxHeartbeats 400000
set_option linter.unusedVariables false
set_option linter.unusedSimpArgs false
set_option linter.unusedSectionVars false
namespace Go.Proofs.YtdnhhdplcminlaaGreatDoor.AI

/-- The parts of a string between the bytes b. -/
def splitB (b : UInt8) : List UInt8 → List (List UInt8)
  | [] => [[]]
  | c :: r => if c = b then [] :: splitB b r else match splitB b r with
    | p :: ps => (c :: p) :: ps
    | [] => [[c]]

def strsOf : List AV → Option (List (List UInt8))
  | [] => some []
  | .str s :: r => match strsOf r with | some l => some (s :: l) | none => none
  | _ :: _ => none

def joinB (sep : List UInt8) : List (List UInt8) → List UInt8
  | [] => []
  | [s] => s
  | s :: r => s ++ sep ++ joinB sep r

def pCount : List AV → Option AV
  | [.str s, .str [b]] => some (.int .i64 (s.count b))
  | _ => none

def pSplit : List AV → Option AV
  | [.str s, .str [b]] => if s.length < 4294967281 then some (.sl false (splitB b s).length ((splitB b s).map .str)) else none
  | _ => none

def pJoin : List AV → Option AV
  | [.nilsl, .str _] => some (.str [])
  | [.sl _ n cs, .str sep] => if n = cs.length then (strsOf cs).bind fun l => if (joinB sep l).length ≤ 140737488355328 ∧ n ≤ 140737488355328 then some (.str (joinB sep l)) else none else none
  | _ => none

/-- slices.Clone, to a row that is then written; sz: the cells of an element. -/
def hCloneV (sz : Nat) : List AV → Heap → Option (AV × Heap)
  | [.sl _ n cs], h => if n = 0 then some (.ms 0 0 0 0, h) else if cs.length = n * sz ∧ n ≤ maxN then some (.ms h.length 0 n cs.length, h ++ [some (.arr cs)]) else none
  | _, _ => none
/-- slices.Clone of what nobody writes. -/
def pCloneV (sz : Nat) : List AV → Option AV
  | [.sl _ n cs] => if n = 0 then some (.sl false 0 []) else if cs.length = n * sz ∧ n ≤ maxN ∧ (strsOf cs).isSome = true then some (.sl false n cs) else none
  | _ => none
/-- A check that always holds. -/
def pTrue : List AV → Option AV
  | [] => some (.bool true)
  | _ => none

end Go.Proofs.YtdnhhdplcminlaaGreatDoor.AI
