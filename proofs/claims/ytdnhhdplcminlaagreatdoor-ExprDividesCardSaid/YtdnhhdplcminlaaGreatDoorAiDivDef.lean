/- What is known of the unknown numbers in the law of quotients. -/
import Derived.Test.YtdnhhdplcminlaaGreatDoorAiOk
set_option maxHeartbeats 400000
set_option linter.unusedVariables false
set_option linter.unusedSimpArgs false
set_option linter.unusedSectionVars false
namespace Go.Proofs.YtdnhhdplcminlaaGreatDoor.AI

abbrev Ent := BinOp × Tm × Tm × Bool
def look : List Ent → BinOp → Tm → Tm → Option Bool
  | [], _, _, _ => none
  | (p, x, y, r) :: l, q, a, b => if p = q ∧ x = a ∧ y = b then some r else look l q a b

theorem look_ok [Nu] : ∀ (l : List Ent), (∀ e ∈ l, cmpI e.1 e.2.1.val e.2.2.1.val = some e.2.2.2) → OraOk (cfgO (look l))
  | [], _ => fun op a b r h => by cases h
  | (p, x, y, q) :: l, hl => fun op a b r h => by
    have h : (if p = op ∧ x = a ∧ y = b then some q else look l op a b) = some r := h
    by_cases hc : p = op ∧ x = a ∧ y = b
    · rw [if_pos hc] at h
      have hq : q = r := Option.some.inj h
      have := hl (p, x, y, q) (by simp)
      rw [hc.1, hc.2.1, hc.2.2, hq] at this
      exact this
    · rw [if_neg hc] at h
      exact look_ok l (fun e he => hl e (by simp [he])) op a b r h

def v0 : Tm := .var 0
def v1 : Tm := .var 1
def tq : Tm := .quo .i64 v0 v1
def tr : Tm := .rem v0 v1
def tq1 : Tm := .sub .i64 tq (.lit 1)
def tr1 : Tm := .add .i64 tr v1
def back (q r : Tm) : Tm := .add .i64 (.mul .i64 q v1) r

def caseA : List Ent := [(.eql, v1, .lit 0, true)]
def caseB : List Ent := [(.eql, v1, .lit 0, false), (.eql, v1, .lit (-1), true), (.neq, back (.neg .i64 v0) (.lit 0), v0, false), (.gtr, .lit 0, v1, true), (.lss, v1, .lit 0, true)]
/-- The remainder is zero. -/
def caseC (neg : Bool) : List Ent := [(.eql, v1, .lit 0, false), (.eql, v1, .lit (-1), false), (.neq, tr, .lit 0, false), (.neq, back tq tr, v0, false), (.eql, tr, .lit 0, true), (.gtr, tr, v1, neg), (.lss, v1, .lit 0, neg)]
/-- Remainder and divisor are of one sign. -/
def caseD (neg : Bool) : List Ent := [(.eql, v1, .lit 0, false), (.eql, v1, .lit (-1), false), (.neq, tr, .lit 0, true), (.lss, tr, .lit 0, neg), (.lss, v1, .lit 0, neg), (.neq, back tq tr, v0, false), (.eql, tr, .lit 0, false), (.gtr, tr, v1, neg)]
/-- They are of two signs. -/
def caseE (neg : Bool) : List Ent := [(.eql, v1, .lit 0, false), (.eql, v1, .lit (-1), false), (.neq, tr, .lit 0, true), (.lss, tr, .lit 0, !neg), (.lss, v1, .lit 0, neg), (.neq, back tq1 tr1, v0, false), (.eql, tr1, .lit 0, false), (.lss, tr1, .lit 0, neg), (.gtr, tr1, v1, neg)]

/-- What the law hands back. -/
noncomputable def divides (l : List Ent) : Option (AV × Heap) := callerOf Tryz.prog (cfgO (look l)) (exec Tryz.prog (cfgO (look l)) 20000) 8 [.sym .i64 v0, .sym .i64 v1] []

end Go.Proofs.YtdnhhdplcminlaaGreatDoor.AI
