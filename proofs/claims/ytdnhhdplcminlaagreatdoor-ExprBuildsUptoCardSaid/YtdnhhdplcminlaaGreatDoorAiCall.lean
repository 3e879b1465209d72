/- A call that sees the heap: the caller's own variables lie outside. One operation, a call too. -/
import Derived.Test.YtdnhhdplcminlaaGreatDoorAiErase
set_option maxHeartbeats 400000
set_option linter.unusedVariables false
set_option linter.unusedSimpArgs false
set_option linter.unusedSectionVars false
namespace Go.Proofs.YtdnhhdplcminlaaGreatDoor.AI
variable [Nu]

section
variable {P : Program} {G : Cfg} {E : Nat → Nat → Prop} {L : Lay} {e : Env} {h : Heap} {w : World}

/-- What the callee may not write. -/
def EB (E : Nat → Nat → Prop) (L : Lay) (e : Env) (g j : Nat) : Prop := E g j ∨ ∃ b cs, e b = .box cs ∧ L.loc (.box b) = g

theorem ob_box {b : Nat} {o : AObj} (ho : obOf e h (.box b) = some o) : ∃ cs, e b = .box cs ∧ o = .arr cs := boxO_some ho
theorem ob_obj (e e' : Env) (h : Heap) (id : Nat) : obOf e h (.obj id) = obOf e' h (.obj id) := rfl

theorem un_eb (g j : Nat) : Un (EB E L e) L (obOf Env.empty h) g j ↔ Un E L (obOf e h) g j := by
  constructor
  · rintro ((h1 | ⟨b, cs, hb, hl⟩) | ⟨k, o, hk, hl, hc⟩)
    · exact .inl h1
    · exact .inr ⟨.box b, .arr cs, by simp [obOf, boxO, hb], hl, fun e n c he => by cases he⟩
    · cases k with
      | box t => cases hk
      | obj id => exact .inr ⟨.obj id, o, hk, hl, hc⟩
  · rintro (h1 | ⟨k, o, hk, hl, hc⟩)
    · exact .inl (.inl h1)
    · cases k with
      | box t =>
        obtain ⟨cs, hb, rfl⟩ := ob_box hk
        exact .inl (.inr ⟨t, cs, hb, hl⟩)
      | obj id => exact .inr ⟨.obj id, o, hk, hl, hc⟩

theorem le_of_same {X Y : RC} (hS : ∀ a v, X.S a v → Y.S a v) (hlen : X.len = Y.len) (ht : X.isTok = Y.isTok) (hl : ∀ id, X.loc (.obj id) = Y.loc (.obj id)) (hc : X.cap = Y.cap) (ho : ∀ id, X.ob (.obj id) = Y.ob (.obj id)) : X.Le Y :=
  ⟨hS, Nat.le_of_eq hlen, fun id _ => by rw [ht], fun id _ _ => (hl id).symm, fun id e m c h => ⟨m, c, by rw [← ho]; exact h, Nat.le_refl _, fun _ => ⟨(hl id).symm, by rw [hc]⟩⟩⟩

theorem le_eb (len : Nat) : (rc E L (obOf e h) len w).Le (rc (EB E L e) L (obOf Env.empty h) len w) :=
  le_of_same (fun a v ⟨h1, h2, h3⟩ => ⟨h1, fun hu => h2 ((un_eb _ _).1 hu), h3⟩) rfl rfl (fun _ => rfl) rfl (fun _ => rfl)
theorem le_be (len : Nat) : (rc (EB E L e) L (obOf Env.empty h) len w).Le (rc E L (obOf e h) len w) :=
  le_of_same (fun a v ⟨h1, h2, h3⟩ => ⟨h1, fun hu => h2 ((un_eb _ _).2 hu), h3⟩) rfl rfl (fun _ => rfl) rfl (fun _ => rfl)

/-- What the callee begins with. -/
theorem HS.enter {len : Nat} (H : HS P G E L (obOf e h) len w) : HS P G (EB E L e) L (obOf Env.empty h) len w := by
  refine ⟨fun k o hk => ?_, fun k o hk => ?_, fun k k' o o' hk hk' => ?_, fun k o j hk => ?_, ?_, fun g cs hg => (H.glob g cs hg).mono (le_eb len), fun id o hk => H.idlt id o hk, fun g hg => (H.ints g hg).imp fun m h => (le_eb len).S _ _ h⟩
  · cases k with
    | box t => cases hk
    | obj id => exact (H.objs (.obj id) o hk).keep (le_eb len) rfl (fun _ _ => ⟨rfl, rfl⟩) rfl
  · cases k with
    | box t => cases hk
    | obj id => exact H.lt (.obj id) o hk
  · cases k with
    | box t => cases hk
    | obj id => cases k' with
      | box t => cases hk'
      | obj id' => exact H.inj (.obj id) (.obj id') o o' hk hk'
  · cases k with
    | box t => cases hk
    | obj id =>
      rintro (h1 | ⟨b, cs, hb, hl⟩)
      · exact H.ne (.obj id) o j hk h1
      · have := H.inj (.box b) (.obj id) (.arr cs) o (by simp [obOf, boxO, hb]) hk hl
        cases this
  · rintro g j (h1 | ⟨b, cs, hb, rfl⟩)
    · exact H.eold g j h1
    · exact H.lt (.box b) (.arr cs) (by simp [obOf, boxO, hb])

def Lay.back (L L' : Lay) : Lay := { loc := fun k => match k with | .box b => L.loc (.box b) | .obj id => L'.loc (.obj id), isTok := L'.isTok, cap := L'.cap }

theorem eb_back {L' : Lay} : EB E L e = EB E (L.back L') e := rfl
theorem rc_back {L' : Lay} {h' : Heap} {len' : Nat} {w' : World} : rc (EB E L e) L' (obOf Env.empty h') len' w' = { rc (EB E L e) (L.back L') (obOf Env.empty h') len' w' with loc := L'.loc } := by
  simp only [rc, Lay.back]
  congr 1
  funext a v
  have : Un (EB E L e) L' (obOf Env.empty h') a.block a.off = Un (EB E L e) (L.back L') (obOf Env.empty h') a.block a.off := by
    apply propext
    constructor
    · rintro (h1 | ⟨k, o, hk, hl, hc⟩)
      · exact .inl h1
      · cases k with
        | box t => cases hk
        | obj id => exact .inr ⟨.obj id, o, hk, hl, hc⟩
    · rintro (h1 | ⟨k, o, hk, hl, hc⟩)
      · exact .inl h1
      · cases k with
        | box t => cases hk
        | obj id => exact .inr ⟨.obj id, o, hk, hl, hc⟩
  simp only [Lay.back] at this
  rw [this]

/-- Back from the callee. -/
theorem HS.leave {len len' : Nat} (H : HS P G E L (obOf e h) len w) {L' : Lay} {h' : Heap} {w' : World} (H' : HS P G (EB E L e) L' (obOf Env.empty h') len' w')
    (hp : Pg (EB E L e) L (obOf Env.empty h) len w L' (obOf Env.empty h') len' w') :
    HS P G E (L.back L') (obOf e h') len' w' ∧ Pg E L (obOf e h) len w (L.back L') (obOf e h') len' w' ∧
      (rc (EB E L e) L' (obOf Env.empty h') len' w').Le (rc E (L.back L') (obOf e h') len' w') := by
  have l3 : (rc (EB E L e) L' (obOf Env.empty h') len' w').Le (rc E (L.back L') (obOf e h') len' w') := by
    rw [rc_back]
    refine le_of_same (fun a v ⟨h1, h2, h3⟩ => ⟨h1, fun hu => h2 ?_, h3⟩) rfl rfl (fun _ => rfl) rfl (fun _ => rfl)
    rw [eb_back (L' := L')]
    exact (un_eb (L := L.back L') _ _).2 hu
  have le : (rc E L (obOf e h) len w).Le (rc E (L.back L') (obOf e h') len' w') := ((le_eb len).trans hp.le).trans l3
  refine ⟨⟨fun k o hk => ?_, fun k o hk => ?_, fun k k' o o' hk hk' hl => ?_, fun k o j hk => ?_, fun g j hg => Nat.lt_of_lt_of_le (H.eold g j hg) hp.fr.size, fun g cs hg => (H'.glob g cs hg).mono l3, fun id o hk => H'.idlt id o hk, fun g hg => (H'.ints g hg).imp fun m h => l3.S _ _ h⟩, ⟨le, hp.fr.mono ?_, fun k o hk => ?_⟩, l3⟩
  · cases k with
    | box b =>
      obtain ⟨cs, hb, rfl⟩ := ob_box hk
      have hk0 : obOf e h (.box b) = some (.arr cs) := by simp [obOf, boxO, hb]
      refine (H.objs _ _ hk0).keep le rfl (fun id hid => by cases hid) (hp.fr.block _ (H.lt _ _ hk0) ?_)
      rintro ⟨k1, o1, hk1, hl⟩
      cases k1 with
      | box t => cases hk1
      | obj id =>
        have := H.inj (.box b) (.obj id) _ _ hk0 hk1 hl
        cases this
    | obj id => exact (H'.objs (.obj id) o hk).keep l3 rfl (fun _ _ => ⟨rfl, rfl⟩) rfl
  · cases k with
    | box b =>
      obtain ⟨cs, hb, rfl⟩ := ob_box hk
      exact Nat.lt_of_lt_of_le (H.lt (.box b) (.arr cs) (by simp [obOf, boxO, hb])) hp.fr.size
    | obj id => exact H'.lt (.obj id) o hk
  · have cross : ∀ b id o1 o2, obOf e h' (.box b) = some o1 → obOf e h' (.obj id) = some o2 → L.loc (.box b) ≠ L'.loc (.obj id) := by
      intro b id o1 o2 h1 h2 he
      obtain ⟨cs, hb, rfl⟩ := ob_box h1
      exact H'.ne (.obj id) o2 0 h2 (.inr ⟨b, cs, hb, he⟩)
    cases k with
    | box b => cases k' with
      | box b' =>
        obtain ⟨cs, hb, rfl⟩ := ob_box hk
        obtain ⟨cs', hb', rfl⟩ := ob_box hk'
        exact H.inj (.box b) (.box b') (.arr cs) (.arr cs') (by simp [obOf, boxO, hb]) (by simp [obOf, boxO, hb']) hl
      | obj id => exact absurd hl (cross b id o o' hk hk')
    | obj id => cases k' with
      | box b => exact absurd hl.symm (cross b id o' o hk' hk)
      | obj id' => exact H'.inj (.obj id) (.obj id') o o' hk hk' hl
  · cases k with
    | box b =>
      obtain ⟨cs, hb, rfl⟩ := ob_box hk
      exact H.ne (.box b) (.arr cs) j (by simp [obOf, boxO, hb])
    | obj id => exact fun hE => H'.ne (.obj id) o j hk (.inl hE)
  · rintro g ⟨k, o, hk, rfl⟩
    cases k with
    | box t => cases hk
    | obj id => exact ⟨.obj id, o, hk, rfl⟩
  · cases k with
    | box b =>
      obtain ⟨cs, hb, rfl⟩ := ob_box hk
      exact .inl ⟨.box b, .arr cs, by simp [obOf, boxO, hb], rfl⟩
    | obj id =>
      rcases hp.own (.obj id) o hk with ⟨k1, o1, hk1, hl⟩ | hl
      · cases k1 with
        | box t => cases hk1
        | obj id1 => exact .inl ⟨.obj id1, o1, hk1, hl⟩
      · exact .inr hl
end
end Go.Proofs.YtdnhhdplcminlaaGreatDoor.AI
