/- The state of the interpreter against a world: one object at a time is made or changed. -/
import Derived.Test.YtdnhhdplcminlaaGreatDoorAiRep
set_option maxHeartbeats 400000
set_option linter.unusedVariables false
set_option linter.unusedSimpArgs false
set_option linter.unusedSectionVars false
namespace Go.Proofs.YtdnhhdplcminlaaGreatDoor.AI
variable [Nu]

structure Lay where
  loc : Key → Nat
  isTok : Nat → Bool
  cap : Nat → Nat

def boxO : AV → Option AObj
  | .box cs => some (.arr cs)
  | _ => none
theorem boxO_none {v : AV} (h : ∀ cs, v ≠ .box cs) : boxO v = none := by
  cases v with
  | box cs => exact absurd rfl (h cs)
  | _ => rfl
theorem boxO_some {v : AV} {o : AObj} (h : boxO v = some o) : ∃ cs, v = .box cs ∧ o = .arr cs := by
  cases v with
  | box cs => cases h; exact ⟨cs, rfl, rfl⟩
  | _ => cases h
def obOf (e : Env) (h : Heap) : Key → Option AObj
  | .box t => boxO (e t)
  | .obj id => match h[id]? with | some (some o) => some o | _ => none

def Un (E : Nat → Nat → Prop) (L : Lay) (ob : Key → Option AObj) (g j : Nat) : Prop :=
  E g j ∨ ∃ k o, ob k = some o ∧ L.loc k = g ∧ ∀ e n c, o = .tok e n c → c ≤ j

def rc (E : Nat → Nat → Prop) (L : Lay) (ob : Key → Option AObj) (len : Nat) (w : World) : RC :=
  { S := fun a v => w.cell? a = some v ∧ ¬ Un E L ob a.block a.off ∧ v.oneCell' = true, loc := L.loc, isTok := L.isTok, cap := L.cap, len, ob }

def ObjR (P : Program) (X : RC) (w : World) (k : Key) : AObj → Prop
  | .arr cs => (∀ id, k = .obj id → X.isTok id = false) ∧ ∃ vs t, w.heap[X.loc k]? = some (.cells vs t (0, 0)) ∧ RepC X cs (vs.toList.take cs.length)
  | .tok e n c => ∃ id vs sz, k = .obj id ∧ X.isTok id = true ∧ (P.info? e).map (·.size) = some sz ∧ w.heap[X.loc k]? = some (.cells vs e (0, 0)) ∧ vs.size = X.cap id * sz ∧ n ≤ X.cap id ∧ X.cap id ≤ maxLen ∧ c = n * sz
  | .map es => (∀ id, k = .obj id → X.isTok id = false) ∧ ∃ ents clock, w.heap[X.loc k]? = some (.map ents clock) ∧ RepL X (es.map (·.1)) (ents.toList.map (·.key)) ∧ RepL X (es.map (·.2)) (ents.toList.map (·.val))
  | .sit s pos => (∀ id, k = .obj id → X.isTok id = false) ∧ w.heap[X.loc k]? = some (.stringIter ⟨s.toArray⟩ pos)

theorem ObjR.keep {P : Program} {X Y : RC} {w w' : World} {k : Key} {o : AObj} (h : ObjR P X w k o) (hX : X.Le Y) (hl : Y.loc k = X.loc k) (ht : ∀ id, k = .obj id → Y.isTok id = X.isTok id ∧ Y.cap id = X.cap id)
    (hw : w'.heap[X.loc k]? = w.heap[X.loc k]?) : ObjR P Y w' k o := by
  cases o with
  | arr cs =>
    obtain ⟨h0, vs, t, h1, h2⟩ := h
    exact ⟨fun id hk => by rw [(ht id hk).1]; exact h0 id hk, vs, t, by rw [hl, hw]; exact h1, h2.mono hX⟩
  | tok e n c =>
    obtain ⟨id, vs, sz, hk, h0, h1, h2, h3, h4, h5, h6⟩ := h
    exact ⟨id, vs, sz, hk, by rw [(ht id hk).1]; exact h0, h1, by rw [hl, hw]; exact h2, by rw [(ht id hk).2]; exact h3, by rw [(ht id hk).2]; exact h4, by rw [(ht id hk).2]; exact h5, h6⟩
  | map es =>
    obtain ⟨h0, ents, clock, h1, h2, h3⟩ := h
    exact ⟨fun id hk => by rw [(ht id hk).1]; exact h0 id hk, ents, clock, by rw [hl, hw]; exact h1, h2.mono hX, h3.mono hX⟩
  | sit s pos =>
    obtain ⟨h0, h1⟩ := h
    exact ⟨fun id hk => by rw [(ht id hk).1]; exact h0 id hk, by rw [hl, hw]; exact h1⟩

structure HS (P : Program) (G : Cfg) (E : Nat → Nat → Prop) (L : Lay) (ob : Key → Option AObj) (len : Nat) (w : World) : Prop where
  objs : ∀ k o, ob k = some o → ObjR P (rc E L ob len w) w k o
  lt : ∀ k o, ob k = some o → L.loc k < w.heap.size
  inj : ∀ k k' o o', ob k = some o → ob k' = some o' → L.loc k = L.loc k' → k = k'
  ne : ∀ k o j, ob k = some o → ¬ E (L.loc k) j
  eold : ∀ g j, E g j → g < w.heap.size
  glob : ∀ g cs, G.glob g = some cs → Rep (rc E L ob len w) (.ip cs 0) (.pointer (some ⟨g, 0, none⟩))
  idlt : ∀ id o, ob (.obj id) = some o → id < len
  ints : ∀ g, G.ints g = true → ∃ m, (rc E L ob len w).S ⟨g, 0, none⟩ (.int .i64 m)

/-- Nothing but the blocks in O has been changed. -/
structure Fr (O : Nat → Prop) (w w' : World) : Prop where
  os : w'.os = w.os
  tape : w'.tape = w.tape
  output : w'.output = w.output
  size : w.heap.size ≤ w'.heap.size
  block : ∀ g, g < w.heap.size → ¬ O g → w'.heap[g]? = w.heap[g]?

theorem Fr.refl (O : Nat → Prop) (w : World) : Fr O w w := ⟨rfl, rfl, rfl, Nat.le_refl _, fun _ _ _ => rfl⟩
theorem Fr.trans {O O' : Nat → Prop} {a b c : World} (h : Fr O a b) (k : Fr O' b c) (hO : ∀ g, g < a.heap.size → O' g → O g) : Fr O a c :=
  ⟨k.os.trans h.os, k.tape.trans h.tape, k.output.trans h.output, Nat.le_trans h.size k.size, fun g hg hn => (k.block g (Nat.lt_of_lt_of_le hg h.size) (fun x => hn (hO g hg x))).trans (h.block g hg hn)⟩
theorem Fr.mono {O O' : Nat → Prop} {a b : World} (h : Fr O a b) (hO : ∀ g, O g → O' g) : Fr O' a b :=
  ⟨h.os, h.tape, h.output, h.size, fun g hg hn => h.block g hg (fun x => hn (hO g x))⟩
theorem Fr.drew (O : Nat → Prop) (w : World) : Fr O w { w with drawn := w.drawn + 1 } := ⟨rfl, rfl, rfl, Nat.le_refl _, fun _ _ _ => rfl⟩
theorem Fr.alloc (O : Nat → Prop) (w : World) (o : Obj) : Fr O w (w.alloc o) := ⟨rfl, rfl, rfl, by simp, fun g hg _ => heap_alloc_old w o g hg⟩

theorem cell_block {w w' : World} {a : Addr} (h : w'.heap[a.block]? = w.heap[a.block]?) : w'.cell? a = w.cell? a := by simp [World.cell?, h]
theorem cell_lt {w : World} {a : Addr} {v : Value} (h : w.cell? a = some v) : a.block < w.heap.size := World.block_lt_of_cell? w a h

section
variable {P : Program} {G : Cfg} {E : Nat → Nat → Prop} {L L' : Lay} {ob ob' : Key → Option AObj} {len len' : Nat} {w w' : World}

/-- One object is made or changed. -/
theorem HS.step (H : HS P G E L ob len w) (k0 : Key) (o0 : AObj)
    (hob : ∀ k, k ≠ k0 → ob' k = ob k) (hob0 : ob' k0 = some o0) (hlen : len ≤ len') (hid0 : ∀ id, k0 = .obj id → id < len') (hnew : ob k0 = none → ∀ id, k0 = .obj id → len ≤ id)
    (hloc : ∀ k, k ≠ k0 → L'.loc k = L.loc k) (hcap : ∀ id, Key.obj id ≠ k0 → L'.cap id = L.cap id) (hisT : ∀ id, id < len → L'.isTok id = L.isTok id)
    (hpre : ∀ e n c, ob k0 = some (.tok e n c) → (∀ j v, j < c → w.cell? ⟨L.loc k0, j, none⟩ = some v → w'.cell? ⟨L.loc k0, j, none⟩ = some v) ∧
      ∃ n' c', o0 = .tok e n' c' ∧ n ≤ n' ∧ c ≤ c' ∧ (n' = n → L'.loc k0 = L.loc k0 ∧ ∀ id, k0 = .obj id → L'.cap id = L.cap id))
    (hnt : ∀ o, ob k0 = some o → (∀ e n c, o ≠ .tok e n c) → L'.loc k0 = L.loc k0 ∧ ∀ e n c, o0 ≠ .tok e n c)
    (hpl : (∃ o, ob k0 = some o ∧ L'.loc k0 = L.loc k0) ∨ w.heap.size ≤ L'.loc k0) (hlt : L'.loc k0 < w'.heap.size)
    (hw : Fr (fun g => (∃ o, ob k0 = some o) ∧ g = L.loc k0) w w')
    (ho : (rc E L ob len w).Le (rc E L' ob' len' w') → ObjR P (rc E L' ob' len' w') w' k0 o0) :
    HS P G E L' ob' len' w' ∧ (rc E L ob len w).Le (rc E L' ob' len' w') := by
  have hle : (rc E L ob len w).Le (rc E L' ob' len' w') := by
    refine ⟨?_, hlen, hisT, ?_, ?_⟩
    · rintro a v ⟨hc, hu, h1⟩
      have hlta := cell_lt hc
      have hE : ¬ E a.block a.off := fun x => hu (.inl x)
      by_cases hk : (∃ o, ob k0 = some o) ∧ a.block = L.loc k0
      · obtain ⟨⟨o, hok⟩, hb⟩ := hk
        -- a stable cell in the block of k0: a token's
        have htok : ∃ e n c, o = .tok e n c ∧ a.off < c := by
          by_cases hn : ∃ e n c, o = .tok e n c
          · obtain ⟨e, n, c, rfl⟩ := hn
            refine ⟨e, n, c, rfl, ?_⟩
            rcases Nat.lt_or_ge a.off c with h | h
            · exact h
            · exact absurd (.inr ⟨k0, _, hok, hb.symm, fun e' n' c' he => by cases he; exact h⟩) hu
          · exact absurd (.inr ⟨k0, o, hok, hb.symm, fun e n c he => absurd ⟨e, n, c, he⟩ hn⟩) hu
        obtain ⟨e, n, c, rfl, hj⟩ := htok
        obtain ⟨hkeep, n', c', ho0, _, hcc, _⟩ := hpre e n c hok
        have ha : a = ⟨L.loc k0, a.off, none⟩ := by
          have hs : a.spot = none := by
            cases hsp : a.spot with
            | none => rfl
            | some s => simp [World.cell?, hsp] at hc; split at hc <;> simp_all
          cases a; simp_all
        refine ⟨?_, ?_, h1⟩
        · rw [ha] at hc ⊢
          exact hkeep a.off v hj hc
        · rintro (x | ⟨k, o', hk', hl', hc'⟩)
          · exact hE x
          · by_cases hkk : k = k0
            · subst hkk
              rw [hob0] at hk'
              cases hk'
              have := hc' e n' c' ho0
              omega
            · rw [hob k hkk] at hk'
              rw [hloc k hkk] at hl'
              exact hkk (H.inj k k0 _ _ hk' hok (by rw [hl', hb]))
      · refine ⟨?_, ?_, h1⟩
        · rw [cell_block (hw.block a.block hlta hk)]
          exact hc
        · rintro (x | ⟨k, o', hk', hl', hc'⟩)
          · exact hE x
          · by_cases hkk : k = k0
            · subst hkk
              rcases hpl with ⟨o, hok, hp⟩ | hp
              · exact hk ⟨⟨o, hok⟩, by rw [← hl', hp]⟩
              · rw [hl'] at hp; omega
            · rw [hob k hkk] at hk'
              rw [hloc k hkk] at hl'
              exact hu (.inr ⟨k, o', hk', hl', hc'⟩)
    · intro id hi ht
      by_cases hk : Key.obj id = k0
      · subst hk
        cases hok : ob (.obj id) with
        | none => exact absurd (hnew hok id rfl) (Nat.not_le.2 hi)
        | some o =>
          refine (hnt o hok (fun e n c he => ?_)).1
          subst he
          obtain ⟨id', _, _, hk, ht', _⟩ := H.objs _ _ hok
          cases hk
          have : L.isTok id = true := ht'
          have : L.isTok id = false := ht
          simp_all
      · exact hloc _ hk
    · intro id e m c hok
      by_cases hk : Key.obj id = k0
      · subst hk
        obtain ⟨_, n', c', ho0, hn, hc, hx⟩ := hpre e m c hok
        exact ⟨n', c', by show ob' _ = _; rw [hob0, ho0], hn, fun hnn => ⟨(hx hnn).1, (hx hnn).2 id rfl⟩⟩
      · exact ⟨m, c, by show ob' _ = _; rw [hob _ hk]; exact hok, Nat.le_refl _, fun _ => ⟨hloc _ hk, hcap _ hk⟩⟩
  refine ⟨⟨?_, ?_, ?_, ?_, ?_, ?_, ?_, fun g hg => (H.ints g hg).imp fun m h => hle.S _ _ h⟩, hle⟩
  · intro k o hk
    by_cases hkk : k = k0
    · subst hkk
      rw [hob0] at hk
      cases hk
      exact ho hle
    · rw [hob k hkk] at hk
      refine (H.objs k o hk).keep hle (hloc k hkk) (fun id hid => ?_) (hw.block _ (H.lt k o hk) ?_)
      · subst hid
        exact ⟨hisT id (H.idlt id o hk), hcap id hkk⟩
      · rintro ⟨⟨o1, ho1⟩, hl⟩
        exact hkk (H.inj k k0 _ _ hk ho1 hl)
  · intro k o hk
    by_cases hkk : k = k0
    · subst hkk; exact hlt
    · rw [hob k hkk] at hk
      rw [hloc k hkk]
      exact Nat.lt_of_lt_of_le (H.lt k o hk) hw.size
  · have key : ∀ k o, k ≠ k0 → ob k = some o → L.loc k ≠ L'.loc k0 := by
      intro k o hkk hk he
      rcases hpl with ⟨o1, ho1, hp⟩ | hp
      · exact hkk (H.inj k k0 _ _ hk ho1 (by rw [he, hp]))
      · have := H.lt k o hk
        omega
    intro k k' o o' hk hk' he
    by_cases h1 : k = k0
    · by_cases h2 : k' = k0
      · rw [h1, h2]
      · subst h1
        rw [hob k' h2] at hk'
        rw [hloc k' h2] at he
        exact absurd he.symm (key k' o' h2 hk')
    · rw [hob k h1] at hk
      rw [hloc k h1] at he
      by_cases h2 : k' = k0
      · subst h2
        exact absurd he (key k o h1 hk)
      · rw [hob k' h2] at hk'
        rw [hloc k' h2] at he
        exact H.inj k k' o o' hk hk' he
  · intro k o j hk hE
    by_cases hkk : k = k0
    · subst hkk
      rcases hpl with ⟨o1, ho1, hp⟩ | hp
      · rw [hp] at hE
        exact H.ne k o1 j ho1 hE
      · have := H.eold _ _ hE
        omega
    · rw [hob k hkk] at hk
      rw [hloc k hkk] at hE
      exact H.ne k o j hk hE
  · intro g j hE
    exact Nat.lt_of_lt_of_le (H.eold g j hE) hw.size
  · intro g cs hg
    exact (H.glob g cs hg).mono hle
  · intro id o hk
    by_cases hkk : Key.obj id = k0
    · exact hid0 id hkk.symm
    · rw [hob _ hkk] at hk
      exact Nat.lt_of_lt_of_le (H.idlt id o hk) hlen

/-- The world alone has gone on, the call's own blocks are as they were. -/
theorem HS.world (H : HS P G E L ob len w) (hw : Fr (fun _ => False) w w') : HS P G E L ob len w' ∧ (rc E L ob len w).Le (rc E L ob len w') := by
  have hle : (rc E L ob len w).Le (rc E L ob len w') :=
    ⟨fun a v ⟨hc, hu, h1⟩ => ⟨by rw [cell_block (hw.block _ (cell_lt hc) (by simp))]; exact hc, hu, h1⟩, Nat.le_refl _, fun _ _ => rfl, fun _ _ _ => rfl, fun _ _ m c h => ⟨m, c, h, Nat.le_refl _, fun _ => ⟨rfl, rfl⟩⟩⟩
  exact ⟨⟨fun k o hk => (H.objs k o hk).keep hle rfl (fun _ _ => ⟨rfl, rfl⟩) (hw.block _ (H.lt k o hk) (by simp)), fun k o hk => Nat.lt_of_lt_of_le (H.lt k o hk) hw.size, H.inj, H.ne,
    fun g j hE => Nat.lt_of_lt_of_le (H.eold g j hE) hw.size, fun g cs hg => (H.glob g cs hg).mono hle, H.idlt, fun g hg => (H.ints g hg).imp fun m h => hle.S _ _ h⟩, hle⟩
end
end Go.Proofs.YtdnhhdplcminlaaGreatDoor.AI
