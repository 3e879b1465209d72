/- What came in, as values and expressions of plain Lean: the recursion. -/
import Derived.Test.YtdnhhdplcminlaaGreatDoorAiTyped
set_option maxHeartbeats 1000000
set_option maxRecDepth 100000
set_option linter.unusedVariables false
set_option linter.unusedSimpArgs false
set_option linter.unusedSectionVars false
namespace Go.Proofs.YtdnhhdplcminlaaGreatDoor.AI
open Go

section
variable {H : Type} {enc : TypeId × Value → H} {w : World} {spare : Nat → Bool} {held : Bool}
abbrev TR (enc : TypeId × Value → H) (w : World) (spare : Nat → Bool) (held : Bool) := Tr (enc := enc) (w := w) (spare := spare) (held := held)

theorem VsSm_all {l : List V} (h : ∀ v ∈ l, v.Sm) : VsSm l := by
  induction l with
  | nil => exact trivial
  | cons a l ih => exact ⟨h a (by simp), ih fun v hv => h v (by simp [hv])⟩
theorem FsSm_all {l : List F} (h : ∀ v ∈ l, v.Sm) : FsSm l := by
  induction l with
  | nil => exact trivial
  | cons a l ih => exact ⟨h a (by simp), ih fun v hv => h v (by simp [hv])⟩
theorem EsSm_all {l : List E} (h : ∀ v ∈ l, v.Sm) : EsSm l := by
  induction l with
  | nil => exact trivial
  | cons a l ih => exact ⟨h a (by simp), ih fun v hv => h v (by simp [hv])⟩

def TyV (enc : TypeId × Value → H) (w : World) (spare : Nat → Bool) (held : Bool) (n : Nat) : Prop := ∀ (cs : List Value) (d : DataW H) (ps : List MemPlace), TR enc w spare held n 26 cs d ps → ∃ v : V, Avs n 26 d (encV v) ∧ (Rows.uptoBulk d ≤ 536870912 → v.Sm)
def TyF (enc : TypeId × Value → H) (w : World) (spare : Nat → Bool) (held : Bool) (n : Nat) : Prop := ∀ (cs : List Value) (d : DataW H) (ps : List MemPlace), TR enc w spare held n 54 cs d ps → ∃ v : F, Avs n 54 d (encF v) ∧ (Rows.uptoBulk d ≤ 536870912 → v.Sm)
def TyE (enc : TypeId × Value → H) (w : World) (spare : Nat → Bool) (held : Bool) (n : Nat) : Prop := ∀ (cs : List Value) (d : DataW H) (ps : List MemPlace), TR enc w spare held n 29 cs d ps → ∃ v : E, Avs n 29 d (encE v) ∧ (Rows.uptoBulk d ≤ 536870912 → v.Sm)

theorem ty_strs {n : Nat} {cs : List Value} {d : DataW H} {ps : List MemPlace} (h : TR enc w spare held n 22 cs d ps) : ∃ l : List Str, Avs n 22 d [.sl false l.length (encS l)] ∧ (Rows.uptoBulk d ≤ 536870912 → SsSm l) := by
  obtain ⟨m, rfl⟩ := tr_pos h
  obtain ⟨l, h1, h2⟩ := slice_typed (f := fun s : Str => [AV.str s]) (SmP := fun s => s.length ≤ 536870912) u22 (fun cs d ps h => ty_str h) h
  refine ⟨l, ?_, h2⟩
  rw [encS_eq]
  exact h1
theorem ty_Vs {n : Nat} (ih : ∀ m, m < n → TyV enc w spare held m) {cs : List Value} {d : DataW H} {ps : List MemPlace} (h : TR enc w spare held n 23 cs d ps) : ∃ l : List V, Avs n 23 d [.sl false l.length (encVs l)] ∧ (Rows.uptoBulk d ≤ 536870912 → l.length ≤ 536870912 ∧ VsSm l) := by
  obtain ⟨m, rfl⟩ := tr_pos h
  obtain ⟨l, h1, h2⟩ := slice_typed (f := encV) (SmP := V.Sm) u23 (ih m (by omega)) h
  refine ⟨l, ?_, fun hb => ⟨(h2 hb).1, VsSm_all (h2 hb).2⟩⟩
  rw [encVs_eq]
  exact h1
theorem ty_Fs {n : Nat} (ih : ∀ m, m < n → TyF enc w spare held m) {cs : List Value} {d : DataW H} {ps : List MemPlace} (h : TR enc w spare held n 24 cs d ps) : ∃ l : List F, Avs n 24 d [.sl false l.length (encFs l)] ∧ (Rows.uptoBulk d ≤ 536870912 → l.length ≤ 536870912 ∧ FsSm l) := by
  obtain ⟨m, rfl⟩ := tr_pos h
  obtain ⟨l, h1, h2⟩ := slice_typed (f := encF) (SmP := F.Sm) u24 (ih m (by omega)) h
  refine ⟨l, ?_, fun hb => ⟨(h2 hb).1, FsSm_all (h2 hb).2⟩⟩
  rw [encFs_eq]
  exact h1
theorem ty_Es {n : Nat} (ih : ∀ m, m < n → TyE enc w spare held m) {cs : List Value} {d : DataW H} {ps : List MemPlace} (h : TR enc w spare held n 27 cs d ps) : ∃ l : List E, Avs n 27 d [.sl false l.length (encEs l)] ∧ (Rows.uptoBulk d ≤ 536870912 → l.length ≤ 536870912 ∧ EsSm l) := by
  obtain ⟨m, rfl⟩ := tr_pos h
  obtain ⟨l, h1, h2⟩ := slice_typed (f := encE) (SmP := E.Sm) u27 (ih m (by omega)) h
  refine ⟨l, ?_, fun hb => ⟨(h2 hb).1, EsSm_all (h2 hb).2⟩⟩
  rw [encEs_eq]
  exact h1

theorem ty_F_of {n : Nat} (ih : ∀ m, m < n → TyV enc w spare held m) : TyF enc w spare held n := by
  intro cs d ps h
  obtain ⟨m, xs, rfl, rfl, hl, hall, hmk⟩ := struct_parts fields54 h
  match xs, hl with
  | [x0, x1], _ =>
    obtain ⟨_, _, t0⟩ := hall 0 x0 (0, 9) rfl rfl
    obtain ⟨_, _, t1⟩ := hall 1 x1 (1, 26) rfl rfl
    obtain ⟨s, a0, b0⟩ := ty_str t0
    obtain ⟨v, a1, b1⟩ := ih m (by omega) _ _ _ t1
    refine ⟨.mk s v, fun k hk => ?_, fun hb => ?_⟩
    · obtain ⟨k', rfl⟩ : ∃ k', k = k' + 1 := ⟨k - 1, by omega⟩
      have h1 := a1 k' (by omega)
      rw [encV_eq] at h1
      refine hmk k' _ ?_ ?_
      · have := avParts_cons (off := 0) (a0 k' (by omega)) k9.symm (avParts_cons (ds := []) (r := []) (xs := []) h1 k26.symm rfl)
        rw [encF_eq]
        exact this
      · rw [k54]; simp
    · simp only [Rows.uptoBulk, Rows.uptoBulkAll] at hb
      exact ⟨b0 (by omega), b1 (by omega)⟩
theorem ty_V_all : ∀ n, TyV enc w spare held n := by
  intro n
  induction n using Nat.strongRecOn with
  | ind n ih =>
    intro cs d ps h
    obtain ⟨m, xs, rfl, rfl, hl, hall, hmk⟩ := struct_parts fields26 h
    match xs, hl with
    | [x0, x1, x2, x3, x4], _ =>
      obtain ⟨_, _, t0⟩ := hall 0 x0 (0, 3) rfl rfl
      obtain ⟨_, _, t1⟩ := hall 1 x1 (1, 3) rfl rfl
      obtain ⟨_, _, t2⟩ := hall 2 x2 (2, 9) rfl rfl
      obtain ⟨_, _, t3⟩ := hall 3 x3 (3, 23) rfl rfl
      obtain ⟨_, _, t4⟩ := hall 4 x4 (4, 24) rfl rfl
      obtain ⟨i0, a0⟩ := ty_int t0
      obtain ⟨i1, a1⟩ := ty_int t1
      obtain ⟨s, a2, b2⟩ := ty_str t2
      obtain ⟨l, a3, b3⟩ := ty_Vs (fun j hj => ih j (by omega)) t3
      obtain ⟨fl, a4, b4⟩ := ty_Fs (fun j hj => ty_F_of fun i hi => ih i (by omega)) t4
      refine ⟨.mk i0 i1 s l fl, fun k hk => ?_, fun hb => ?_⟩
      · obtain ⟨k', rfl⟩ : ∃ k', k = k' + 1 := ⟨k - 1, by omega⟩
        refine hmk k' _ (avParts_cons (a0 k' (by omega)) k3.symm (avParts_cons (a1 k' (by omega)) k3.symm (avParts_cons (a2 k' (by omega)) k9.symm (avParts_cons (a3 k' (by omega)) k23.symm (avParts_cons (ds := []) (a4 k' (by omega)) k24.symm rfl))))) ?_
        rw [k26]; rfl
      · simp only [Rows.uptoBulk, Rows.uptoBulkAll] at hb
        have h3 := b3 (by omega)
        have h4 := b4 (by omega)
        exact ⟨b2 (by omega), h3.1, h4.1, h3.2, h4.2⟩
theorem ty_E_all : ∀ n, TyE enc w spare held n := by
  intro n
  induction n using Nat.strongRecOn with
  | ind n ih =>
    intro cs d ps h
    obtain ⟨m, xs, rfl, rfl, hl, hall, hmk⟩ := struct_parts fields29 h
    match xs, hl with
    | [x0, x1, x2, x3, x4, x5, x6], _ =>
      obtain ⟨_, _, t0⟩ := hall 0 x0 (0, 3) rfl rfl
      obtain ⟨_, _, t1⟩ := hall 1 x1 (1, 22) rfl rfl
      obtain ⟨_, _, t2⟩ := hall 2 x2 (2, 9) rfl rfl
      obtain ⟨_, _, t3⟩ := hall 3 x3 (3, 22) rfl rfl
      obtain ⟨_, _, t4⟩ := hall 4 x4 (4, 26) rfl rfl
      obtain ⟨_, _, t5⟩ := hall 5 x5 (9, 3) rfl rfl
      obtain ⟨_, _, t6⟩ := hall 6 x6 (10, 27) rfl rfl
      obtain ⟨i0, a0⟩ := ty_int t0
      obtain ⟨p, a1, b1⟩ := ty_strs t1
      obtain ⟨s, a2, b2⟩ := ty_str t2
      obtain ⟨ns, a3, b3⟩ := ty_strs t3
      obtain ⟨v, a4, b4⟩ := ty_V_all m _ _ _ t4
      obtain ⟨i5, a5⟩ := ty_int t5
      obtain ⟨l, a6, b6⟩ := ty_Es (fun j hj => ih j (by omega)) t6
      refine ⟨.mk i0 p s ns v i5 l, fun k hk => ?_, fun hb => ?_⟩
      · obtain ⟨k', rfl⟩ : ∃ k', k = k' + 1 := ⟨k - 1, by omega⟩
        have h4 := a4 k' (by omega)
        rw [encV_eq] at h4
        refine hmk k' _ ?_ ?_
        · have := avParts_cons (off := 0) (a0 k' (by omega)) k3.symm (avParts_cons (a1 k' (by omega)) k22.symm (avParts_cons (a2 k' (by omega)) k9.symm (avParts_cons (a3 k' (by omega)) k22.symm (avParts_cons h4 k26.symm (avParts_cons (a5 k' (by omega)) k3.symm (avParts_cons (ds := []) (r := []) (xs := []) (a6 k' (by omega)) k27.symm rfl))))))
          rw [encE_eq]
          exact this
        · rw [k29]; simp
      · simp only [Rows.uptoBulk, Rows.uptoBulkAll] at hb
        have h6 := b6 (by omega)
        exact ⟨b1 (by omega), b2 (by omega), b3 (by omega), b4 (by omega), h6.1, h6.2⟩
end
end Go.Proofs.YtdnhhdplcminlaaGreatDoor.AI
