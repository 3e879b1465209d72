/- The frame of a call against the interpreter's state, and what goes on from one state to the next. -/
import Derived.Test.YtdnhhdplcminlaaGreatDoorAiOps6
set_option maxHeartbeats 400000
set_option linter.unusedVariables false
set_option linter.unusedSimpArgs false
set_option linter.unusedSectionVars false
namespace Go.Proofs.YtdnhhdplcminlaaGreatDoor.AI
variable [Nu]

/-- From one state of the call's own objects to a later one. -/
structure Pg (E : Nat → Nat → Prop) (L : Lay) (ob : Key → Option AObj) (len : Nat) (w : World) (L' : Lay) (ob' : Key → Option AObj) (len' : Nat) (w' : World) : Prop where
  le : (rc E L ob len w).Le (rc E L' ob' len' w')
  fr : Fr (fun g => ∃ k o, ob k = some o ∧ g = L.loc k) w w'
  own : ∀ k o', ob' k = some o' → (∃ k1 o1, ob k1 = some o1 ∧ L.loc k1 = L'.loc k) ∨ w.heap.size ≤ L'.loc k

theorem Pg.refl (E : Nat → Nat → Prop) (L : Lay) (ob : Key → Option AObj) (len : Nat) (w : World) : Pg E L ob len w L ob len w :=
  ⟨.refl _, .refl _ _, fun k o h => .inl ⟨k, o, h, rfl⟩⟩

theorem Pg.trans {E : Nat → Nat → Prop} {L L' L'' : Lay} {ob ob' ob'' : Key → Option AObj} {len len' len'' : Nat} {w w' w'' : World}
    (h : Pg E L ob len w L' ob' len' w') (k : Pg E L' ob' len' w' L'' ob'' len'' w'') : Pg E L ob len w L'' ob'' len'' w'' := by
  refine ⟨h.le.trans k.le, h.fr.trans k.fr ?_, ?_⟩
  · rintro g hg ⟨k1, o1, h1, rfl⟩
    rcases h.own k1 o1 h1 with ⟨k2, o2, h2, h3⟩ | h2
    · exact ⟨k2, o2, h2, h3.symm⟩
    · omega
  · intro k1 o1 h1
    rcases k.own k1 o1 h1 with ⟨k2, o2, h2, h3⟩ | h2
    · rcases h.own k2 o2 h2 with ⟨k3, o3, h4, h5⟩ | h4
      · exact .inl ⟨k3, o3, h4, h5.trans h3⟩
      · exact .inr (by rw [← h3]; exact h4)
    · exact .inr (Nat.le_trans h.fr.size h2)

/-- A world that has gone on beside the call's own blocks. -/
theorem Pg.world {P : Program} {G : Cfg} {E : Nat → Nat → Prop} {L : Lay} {ob : Key → Option AObj} {len : Nat} {w w' : World} (H : HS P G E L ob len w) (hw : Fr (fun _ => False) w w') :
    HS P G E L ob len w' ∧ Pg E L ob len w L ob len w' :=
  ⟨(H.world hw).1, ⟨(H.world hw).2, hw.mono (fun _ h => h.elim), fun k o h => .inl ⟨k, o, h, rfl⟩⟩⟩

structure FS (P : Program) (G : Cfg) (E : Nat → Nat → Prop) (f : FuncId) (L : Lay) (s : St) (a : Act) (w : World) : Prop where
  hs : HS P G E L (obOf s.env s.heap) s.heap.length w
  env : ERep (rc E L (obOf s.env s.heap) s.heap.length w) s.env a
  ein : EIn s.env a
  dfr : a.defers = []
  bx : ∀ t cs, s.env t = .box cs → G.boxes f t = true

abbrev PgS (E : Nat → Nat → Prop) (L : Lay) (s : St) (w : World) (L' : Lay) (s' : St) (w' : World) : Prop :=
  Pg E L (obOf s.env s.heap) s.heap.length w L' (obOf s'.env s'.heap) s'.heap.length w'

section
variable {P : Program} {G : Cfg} {E : Nat → Nat → Prop} {f : FuncId} {L : Lay} {s : St} {a : Act} {w : World}

theorem FS.eval (F : FS P G E f L s a w) (x : Operand) : VRep (rc E L (obOf s.env s.heap) s.heap.length w) (evalO G s.env x) (a.eval x) :=
  eval_ok F.hs.glob F.env F.ein x

theorem obOf_upd {e : Env} {h : Heap} {d : Nat} {v : AV} (h0 : ∀ cs, e d ≠ .box cs) (h1 : ∀ cs, v ≠ .box cs) : obOf (e.upd d v) h = obOf e h := by
  funext k
  cases k with
  | obj id => rfl
  | box t =>
    simp only [obOf, Env.upd]
    by_cases ht : t = d
    · subst ht
      rw [if_pos rfl, boxO_none h1, boxO_none h0]
    · rw [if_neg ht]

theorem VRep.nobox {X : RC} {v : AV} {c : Value} (h : VRep X v c) (cs : List AV) : v ≠ .box cs := by
  rintro rfl
  rcases h with h | ⟨b, off, he, _⟩
  · cases h
  · cases he

theorem put_size (a : Act) (d : Option Nat) (c : Value) : (a.put d c).tmps.size = a.tmps.size := by
  cases d <;> simp [Act.put]
theorem put_defers' (a : Act) (d : Option Nat) (c : Value) : (a.put d c).defers = a.defers := by
  cases d <;> rfl

/-- A result is put into its temporary. -/
theorem FS.put (F : FS P G E f L s a w) (d : Option Nat) (hd : ∀ t, d = some t → t < a.tmps.size ∧ G.boxes f t = false) {v : AV} {c : Value} (hv : VRep (rc E L (obOf s.env s.heap) s.heap.length w) v c) :
    FS P G E f L ⟨s.env.put d v, s.heap⟩ (a.put d c) w ∧ obOf (s.env.put d v) s.heap = obOf s.env s.heap := by
  cases d with
  | none => exact ⟨⟨F.hs, F.env, F.ein, F.dfr, F.bx⟩, rfl⟩
  | some d =>
    obtain ⟨hlt, hb⟩ := hd d rfl
    have h0 : ∀ cs, s.env d ≠ .box cs := fun cs he => by have := F.bx d cs he; rw [hb] at this; cases this
    have hob : obOf (s.env.upd d v) s.heap = obOf s.env s.heap := obOf_upd h0 hv.nobox
    refine ⟨⟨?_, ?_, ?_, F.dfr, ?_⟩, hob⟩
    · show HS P G E L (obOf (s.env.upd d v) s.heap) s.heap.length w
      rw [hob]; exact F.hs
    · show ERep (rc E L (obOf (s.env.upd d v) s.heap) s.heap.length w) (s.env.upd d v) _
      rw [hob]
      intro t ht
      simp only [Env.upd, Act.put]
      by_cases htd : t = d
      · subst htd
        rw [if_pos rfl]
        left
        simpa [hlt] using hv
      · rw [if_neg htd]
        have := F.env t (by simpa [Act.put] using ht)
        simpa [Array.getElem?_setIfInBounds, Ne.symm htd] using this
    · intro t ht
      simp only [Act.put, Array.size_setIfInBounds] at ht
      show s.env.upd d v t = _
      rw [Env.upd, if_neg (by omega)]
      exact F.ein t ht
    · intro t cs he
      have he : s.env.upd d v t = .box cs := he
      simp only [Env.upd] at he
      by_cases htd : t = d
      · rw [if_pos htd] at he; exact absurd he (hv.nobox cs)
      · rw [if_neg htd] at he; exact F.bx t cs he

theorem TRep.mono {X Y : RC} (h : X.Le Y) (hb : ∀ b cs, X.ob (.box b) = some (.arr cs) → (∃ cs', Y.ob (.box b) = some (.arr cs')) ∧ Y.loc (.box b) = X.loc (.box b)) {t : Nat} {v : AV} {c : Value}
    (hv : ∀ cs, v ≠ .box cs) (r : TRep X t v c) : TRep Y t v c := by
  rcases r with (r | ⟨b, off, rfl, ⟨cs, ho⟩, rfl⟩) | ⟨cs, he, _⟩
  · exact .inl (.inl (r.mono h))
  · obtain ⟨h1, h2⟩ := hb b cs ho
    exact .inl (.inr ⟨b, off, rfl, h1, by rw [h2]⟩)
  · exact absurd he (hv cs)

/-- The same frame over other objects. -/
theorem FS.move (F : FS P G E f L s a w) {L' : Lay} {h' : Heap} {w' : World} (H : HS P G E L' (obOf s.env h') h'.length w') (hle : (rc E L (obOf s.env s.heap) s.heap.length w).Le (rc E L' (obOf s.env h') h'.length w'))
    (hloc : ∀ b cs, s.env b = .box cs → L'.loc (.box b) = L.loc (.box b)) : FS P G E f L' ⟨s.env, h'⟩ a w' := by
  refine ⟨H, fun t ht => ?_, F.ein, F.dfr, F.bx⟩
  have hb : ∀ b cs, obOf s.env s.heap (.box b) = some (.arr cs) → (∃ cs', obOf s.env h' (.box b) = some (.arr cs')) ∧ L'.loc (.box b) = L.loc (.box b) := by
    intro b cs ho
    have he : s.env b = .box cs := by
      obtain ⟨cs', hc, ho'⟩ := boxO_some ho
      cases ho'
      exact hc
    exact ⟨⟨cs, by simp [obOf, boxO, he]⟩, hloc b cs he⟩
  rcases F.env t ht with r | ⟨cs, he, ho, hc⟩
  · exact TRep.mono hle hb (fun cs => r.nobox cs) (.inl r)
  · exact .inr ⟨cs, he, by show obOf s.env h' (.box t) = _; simp [obOf, boxO, he], by show a.tmps.getD t undef = .pointer (some ⟨L'.loc (.box t), 0, none⟩); rw [hloc t cs he]; exact hc⟩
end
end Go.Proofs.YtdnhhdplcminlaaGreatDoor.AI
