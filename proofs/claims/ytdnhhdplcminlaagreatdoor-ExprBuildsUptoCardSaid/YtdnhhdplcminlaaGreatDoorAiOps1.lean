/- Operations that hand back a value and leave the world alone. -/
import Derived.Test.YtdnhhdplcminlaaGreatDoorAiSim
import Derived.WalkLawsBesides
set_option maxHeartbeats 400000
set_option linter.unusedVariables false
set_option linter.unusedSimpArgs false
set_option linter.unusedSectionVars false
namespace Go.Proofs.YtdnhhdplcminlaaGreatDoor.AI
variable [Nu]

def BRep (X : RC) (b off : Nat) (c : Value) : Prop := (∃ cs, X.ob (.box b) = some (.arr cs)) ∧ c = .pointer (some ((⟨X.loc (.box b), 0, none⟩ : Addr).add off))

/-- What an operand stands for. -/
def VRep (X : RC) (v : AV) (c : Value) : Prop := Rep X v c ∨ ∃ b off, v = .bp b off ∧ BRep X b off c

/-- What a temporary stands for. -/
def TRep (X : RC) (t : Nat) (v : AV) (c : Value) : Prop := VRep X v c ∨ ∃ cs, v = .box cs ∧ X.ob (.box t) = some (.arr cs) ∧ c = .pointer (some ⟨X.loc (.box t), 0, none⟩)

theorem VRep.rep {X : RC} {v : AV} {c : Value} (h : VRep X v c) (hv : ∀ b off, v ≠ .bp b off) : Rep X v c := by
  rcases h with h | ⟨b, off, rfl, _⟩
  · exact h
  · exact absurd rfl (hv b off)
theorem VRep.bp {X : RC} {b off : Nat} {c : Value} (h : VRep X (.bp b off) c) : BRep X b off c := by
  rcases h with h | ⟨b', off', he, h⟩
  · cases h
  · cases he; exact h
theorem VRep.solid {X : RC} {v : AV} {c : Value} (h : VRep X v c) (hv : solid v = true) : Rep X v c := h.rep (fun b off he => by subst he; simp [AI.solid] at hv)
theorem VRep.plain {X : RC} {v : AV} {c : Value} (h : VRep X v c) (hv : plain v = true) : Rep X v c := h.rep (fun b off he => by subst he; simp [AI.plain] at hv)

theorem VRep.denil {X : RC} {v : AV} {c : Value} (h : VRep X v c) : VRep X (AI.denil v) c := by
  rcases h with h | ⟨b, off, rfl, h⟩
  · exact .inl h.denil
  · exact .inr ⟨b, off, rfl, h⟩
theorem rep_ofVal1 (X : RC) (v : Value) : Rep X (ofVal1 v) v := by
  unfold ofVal1
  split
  · exact .bool _
  · exact .int _ _
  · rename_i s
    have := Rep.str (X := X) s.data.toList
    simpa using this
  · exact .nilp
  · exact .nilsl
  · exact .nilmap
  · exact .nilfn
  · exact .nilif
  · exact .undef _
theorem rep_ofVal (X : RC) (v : Value) : Rep X (ofVal v) v := by
  unfold ofVal
  split
  · rename_i cs
    split
    · rename_i h
      have := Rep.agg (X := X) (cs.toList.map ofVal1) cs.toList (by simp) (fun v hv => by simpa using List.all_eq_true.1 h v hv) (fun j hj => by
        simp only [List.length_map] at hj
        simp only [List.getElem_map, List.getD_eq_getElem?_getD, List.getElem?_eq_getElem hj, Option.getD_some]
        exact rep_ofVal1 X _)
      simpa using this
    · exact .undef _
  · exact rep_ofVal1 X _

/-- The environment against the temporaries. -/
def ERep (X : RC) (e : Env) (a : Act) : Prop := ∀ t, t < a.tmps.size → TRep X t (e t) (a.tmps.getD t undef)

section
variable {P : Program} {G : Cfg} {X : RC} {e : Env} {a : Act}

/-- No value is told of what lies behind the temporaries. -/
def EIn (e : Env) (a : Act) : Prop := ∀ t, a.tmps.size ≤ t → e t = .undef

theorem eval_ok (hg : ∀ g cs, G.glob g = some cs → Rep X (.ip cs 0) (.pointer (some ⟨g, 0, none⟩))) (he : ERep X e a) (hi : EIn e a) (x : Operand) : VRep X (evalO G e x) (a.eval x) := by
  cases x with
  | tmp t =>
    by_cases ht : t < a.tmps.size
    · have h := he t ht
      rcases h with h | ⟨cs, hb, ho, hc⟩
      · have hnb : ∀ cs, e t ≠ .box cs := by
          intro cs hb
          rcases h with h | ⟨b, off, hv, _⟩
          · rw [hb] at h; cases h
          · rw [hb] at hv; cases hv
        have : evalO G e (.tmp t) = e t := by
          show (match e t with | .box _ => AV.bp t 0 | v => v) = e t
          cases hv : e t with
          | box cs => exact absurd hv (hnb cs)
          | _ => rfl
        rw [this]
        exact h
      · have : evalO G e (.tmp t) = .bp t 0 := by simp [evalO, hb]
        rw [this]
        exact .inr ⟨t, 0, rfl, ⟨cs, ho⟩, by simpa [Act.eval, Addr.add] using hc⟩
    · have : evalO G e (.tmp t) = .undef := by simp [evalO, hi t (Nat.not_lt.1 ht)]
      rw [this]
      exact .inl (.undef _)
  | const v => exact .inl (rep_ofVal X v)
  | global g =>
    simp only [evalO]
    cases hc : G.glob g with
    | none => exact .inl (.undef _)
    | some cs => exact .inl (hg g cs hc)
  | func f =>
    have := Rep.fn (X := X) (.func f) [] [] rfl (fun j hj => by cases hj)
    exact .inl (by simpa [evalO, Act.eval] using this)

end
end Go.Proofs.YtdnhhdplcminlaaGreatDoor.AI
