/- What lies behind a pointer; look-ups; the frame's state. -/
import Derived.Test.YtdnhhdplcminlaaGreatDoorAiOps5
set_option maxHeartbeats 400000
set_option linter.unusedVariables false
set_option linter.unusedSimpArgs false
set_option linter.unusedSectionVars false
namespace Go.Proofs.YtdnhhdplcminlaaGreatDoor.AI
variable [Nu]

theorem seg_some {cs ds : List AV} {off n : Nat} (h : seg cs off n = some ds) : off + n ≤ cs.length ∧ ds = (cs.drop off).take n := by
  unfold seg at h
  split at h
  · cases h; exact ⟨by assumption, rfl⟩
  · cases h

section
variable {P : Program} {G : Cfg} {E : Nat → Nat → Prop} {L : Lay} {e : Env} {h : Heap} {len : Nat} {w : World}

theorem add_lit' (g off j : Nat) : ((⟨g, 0, none⟩ : Addr).add off).add j = ⟨g, off + j, none⟩ := by
  rw [add_add]
  unfold Addr.add
  split
  · rename_i hz; rw [hz]
  · simp

/-- The cells of an object of the call's own, from off on. -/
theorem arr_read {k : Key} {cs ds : List AV} {off n : Nat} (H : HS P G E L (obOf e h) len w) (ho : obOf e h k = some (.arr cs)) (hs : seg cs off n = some ds) :
    ∃ vs : List Value, (∀ j, j < n → w.cell? (((⟨L.loc k, 0, none⟩ : Addr).add off).add j) = some (vs.getD j undef)) ∧ RepC (rc E L (obOf e h) len w) ds vs ∧ ds.length = n := by
  obtain ⟨hle, rfl⟩ := seg_some hs
  obtain ⟨_, us, t, hc, hr⟩ := H.objs k _ ho
  have hr1 := hr.1
  simp only [List.length_take, Array.length_toList] at hr1
  refine ⟨((us.toList.take cs.length).drop off).take n, fun j hj => ?_, RepC.of ((hr.L.drop off).take n) (fun v hv => hr.2.1 v (List.mem_of_mem_drop (List.mem_of_mem_take hv))), by simp; omega⟩
  rw [add_lit']
  have hlt : off + j < us.size := by omega
  have hc' : w.heap[L.loc k]? = some (.cells us t (0, 0)) := hc
  simp only [World.cell?, hc', Option.isSome_none, Bool.false_eq_true, if_false, Array.getElem?_eq_getElem hlt]
  congr 1
  rw [List.getD_eq_getElem?_getD, List.getElem?_take, if_pos hj, List.getElem?_drop, List.getElem?_take, if_pos (by omega)]
  simp [hlt]

theorem readP_ok {p : AV} {n : Nat} {cs : List AV} {c : Value} (H : HS P G E L (obOf e h) len w) (hr : readP e h p n = some cs) (hp : VRep (rc E L (obOf e h) len w) p c) :
    ∃ (a : Addr) (vs : List Value), c = .pointer (some a) ∧ (∀ j, j < n → w.cell? (a.add j) = some (vs.getD j undef)) ∧ RepC (rc E L (obOf e h) len w) cs vs ∧ cs.length = n := by
  unfold readP at hr
  split at hr
  · rename_i t off
    split at hr <;> try cases hr
    rename_i cs0 hb
    obtain ⟨_, rfl⟩ := hp.bp
    have ho : obOf e h (.box t) = some (.arr cs0) := by simp [obOf, boxO, hb]
    obtain ⟨vs, h1, h2, h3⟩ := arr_read H ho hr
    exact ⟨_, vs, rfl, h1, h2, h3⟩
  · rename_i id off
    split at hr <;> try cases hr
    rename_i cs0 hb
    have hp := hp.rep (by simp)
    cases hp
    have ho : obOf e h (.obj id) = some (.arr cs0) := by simp [obOf, hb]
    obtain ⟨vs, h1, h2, h3⟩ := arr_read H ho hr
    exact ⟨_, vs, rfl, h1, h2, h3⟩
  · rename_i cs0 off
    obtain ⟨hle, rfl⟩ := seg_some hr
    have hp := hp.rep (by simp)
    cases hp
    rename_i a vs hS hR
    refine ⟨_, (List.range n).map (fun j => vs (off + j)), rfl, fun j hj => ?_, ⟨by simp; omega, ?_, ?_⟩, by simp; omega⟩
    · rw [add_add, (hS (off + j) (by omega)).1]
      simp [List.getD_eq_getElem?_getD, hj]
    · intro v hv
      obtain ⟨j, hj, rfl⟩ := List.mem_map.1 hv
      exact (hS (off + j) (by simp at hj; omega)).2.2
    · intro j hj
      simp only [List.length_take, List.length_drop] at hj
      simp only [List.getElem_take, List.getElem_drop]
      have := hR (off + j) (by omega)
      simpa [List.getD_eq_getElem?_getD, show j < n by omega] using this
  · cases hr

theorem load_ok {t : TypeId} {p v : AV} {sz : Nat} {cs : List AV} {c : Value} (H : HS P G E L (obOf e h) len w) (hs : szOf P t = some sz) (hr : readP e h p sz = some cs) (hl : loadV P t cs = some v)
    (hp : VRep (rc E L (obOf e h) len w) p c) : ∃ u, (Instr.loadAt t c).run P w = .ok u w ∧ Rep (rc E L (obOf e h) len w) v u := by
  obtain ⟨a, vs, rfl, hc, hrep, hlen⟩ := readP_ok H hr hp
  unfold loadV at hl
  split at hl <;> try cases hl
  rename_i d hu
  split at hl
  · rename_i ha
    cases hl
    have hv : vs.length = sz := by rw [hrep.1, hlen]
    refine ⟨.agg vs.toArray, ?_, .agg _ _ hrep.1 hrep.2.1 hrep.2.2⟩
    have := run_loadCells (P := P) w a sz (fun j => vs.getD j undef) hc
    have e1 : ((List.range sz).map fun j => vs.getD j undef) = vs := by
      apply List.ext_getElem?
      intro j
      by_cases hj : j < sz
      · simp [hj, List.getElem?_eq_getElem (show j < vs.length by omega)]
      · rw [List.getElem?_eq_none (by simp; omega), List.getElem?_eq_none (by omega)]
    rw [e1] at this
    simp [Instr.loadAt, Instr.sureAddr, loadVar, run_isAgg w (by rw [hu]; simp), ha, run_size hs, this]
  · rename_i ha
    split at hl <;> try cases hl
    have h0 := hc 0 (by rw [← hlen]; simp)
    have hr0 := hrep.2.2 0 (by simp)
    refine ⟨vs.getD 0 undef, ?_, by simpa using hr0⟩
    have : a.add 0 = a := by simp [Addr.add]
    rw [this] at h0
    simp [Instr.loadAt, Instr.sureAddr, loadVar, run_isAgg w (by rw [hu]; simp), ha, h0]

theorem key_ok {X : RC} {t : TypeId} {k : AV} {c : Value} (h : keyFits P t k = true) (hk : Rep X k c) (empty : Bool) : ∃ d, P.underlying t = some d ∧ (∀ W, (Instr.checkKey empty 10000 t c).run P W = .ok () W) ∧
    (d = .string ∨ d = .bool ∨ ∃ q, d = .int q) := by
  have step : ∀ (n : Nat) d, P.underlying t = some d → (d = .string ∨ d = .bool ∨ ∃ q, d = .int q) → ∀ W, (Instr.checkKey empty (n + 1) t c).run P W = .ok () W := by
    intro n d hu hd W
    rcases hd with rfl | rfl | ⟨q, rfl⟩ <;> simp [Instr.checkKey, run_und hu]
  unfold keyFits at h
  split at h
  · rename_i hu; exact ⟨_, hu, step 9999 _ hu (.inl rfl), .inl rfl⟩
  · rename_i q _ _ hu; exact ⟨_, hu, step 9999 _ hu (.inr (.inr ⟨q, rfl⟩)), .inr (.inr ⟨q, rfl⟩)⟩
  · rename_i hu; exact ⟨_, hu, step 9999 _ hu (.inr (.inl rfl)), .inr (.inl rfl)⟩
  · cases h

theorem keyEq_ok {X : RC} {a b : AV} {c d : Value} {r : Bool} (h : keyEq a b = some r) (hc : Rep X a c) (hd : Rep X b d) {t : TypeDesc}
    (ht : (t = .string ∧ ∃ s, c = .string s) ∨ (t = .bool ∧ ∃ s, c = .bool s) ∨ ∃ q, t = .int q ∧ ∃ k s, c = .int k s) : Instr.sameNow t c d = some r := by
  unfold keyEq at h
  split at h
  · cases h; cases hc; cases hd
    rcases ht with ⟨rfl, _⟩ | ⟨rfl, ⟨s, hs⟩⟩ | ⟨q, rfl, k, s, hs⟩
    · simp only [Instr.sameNow, Option.some.injEq]
      rw [Bool.eq_iff_iff]
      rename_i a b _
      show ((a.toArray == b.toArray) : Bool) = true ↔ (a == b) = true
      simp
    · cases hs
    · cases hs
  · cases hc; cases hd
    rcases ht with ⟨rfl, ⟨s, hs⟩⟩ | ⟨rfl, ⟨s, hs⟩⟩ | ⟨q, rfl, k, s, hs⟩
    · cases hs
    · cases hs
    · split at h <;> try cases h
      rename_i hk
      simp [Instr.sameNow, hk]
  · cases h; cases hc; cases hd
    rcases ht with ⟨rfl, ⟨s, hs⟩⟩ | ⟨rfl, ⟨s, hs⟩⟩ | ⟨q, rfl, k, s, hs⟩
    · cases hs
    · simp [Instr.sameNow]
    · cases hs
  · cases h

theorem find_ok {X : RC} {key : AV} {c : Value} {d : TypeDesc} (hk : Rep X key c) (ht : (d = .string ∧ ∃ s, c = .string s) ∨ (d = .bool ∧ ∃ s, c = .bool s) ∨ ∃ q, d = .int q ∧ ∃ k s, c = .int k s) :
    ∀ {es : List (AV × AV)} {ents : List MapEntry} {i : Nat} {r : Option (Nat × AV)}, findE key es i = some r → RepL X (es.map (·.1)) (ents.map (·.key)) → RepL X (es.map (·.2)) (ents.map (·.val)) →
      ∃ r', Instr.findNow d c ents i = some r' ∧ ((r = none ∧ r' = none) ∨ ∃ j v u, r = some (j, v) ∧ r' = some (j, u) ∧ Rep X v u ∧ i ≤ j ∧ j < i + es.length ∧ ∃ k', es[j - i]? = some (k', v) ∧ keyEq key k' = some true)
  | [], ents, i, r, h, h1, _ => by
    simp only [findE] at h
    cases h
    have := h1.1
    cases ents with
    | nil => exact ⟨none, rfl, .inl ⟨rfl, rfl⟩⟩
    | cons _ _ => simp at this
  | (k, v) :: es, [], i, r, h, h1, _ => by have := h1.1; simp at this
  | (k, v) :: es, en :: ents, i, r, h, h1, h2 => by
    obtain ⟨_, _, e1, k1, k2⟩ := RepL.uncons h1
    obtain ⟨_, _, e2, v1, v2⟩ := RepL.uncons h2
    simp only [List.map_cons, List.cons.injEq] at e1 e2
    obtain ⟨rfl, rfl⟩ := e1
    obtain ⟨rfl, rfl⟩ := e2
    simp only [findE] at h
    split at h
    · rename_i he
      cases h
      exact ⟨some (i, en.val), by simp [Instr.findNow, keyEq_ok he hk k1 ht], .inr ⟨i, v, en.val, rfl, rfl, v1, Nat.le_refl _, by simp, k, by simp, he⟩⟩
    · rename_i he
      obtain ⟨r', hr, hc⟩ := find_ok hk ht h k2 v2
      refine ⟨r', by simp [Instr.findNow, keyEq_ok he hk k1 ht, hr], ?_⟩
      rcases hc with hc | ⟨j, v', u, a1, a2, a3, a4, a5, k', a6, a7⟩
      · exact .inl hc
      · refine .inr ⟨j, v', u, a1, a2, a3, by omega, by simp; omega, k', ?_, a7⟩
        rw [show j - i = (j - (i + 1)) + 1 by omega]
        simpa using a6
    · cases h

theorem keyShape {X : RC} {t : TypeId} {k : AV} {c : Value} (h : keyFits P t k = true) (hk : Rep X k c) : ∃ d, P.underlying t = some d ∧
    ((d = .string ∧ ∃ s, c = .string s) ∨ (d = .bool ∧ ∃ s, c = .bool s) ∨ ∃ q, d = .int q ∧ ∃ k s, c = .int k s) := by
  unfold keyFits at h
  split at h
  · rename_i hu; cases hk; exact ⟨_, hu, .inl ⟨rfl, _, rfl⟩⟩
  · rename_i q _ _ hu; cases hk; exact ⟨_, hu, .inr (.inr ⟨q, rfl, _, _, rfl⟩)⟩
  · rename_i hu; cases hk; exact ⟨_, hu, .inr (.inl ⟨rfl, _, rfl⟩)⟩
  · cases h

theorem run_getObj' {r : Nat} {o : Obj} (h : w.heap[r]? = some o) (hc : ∀ c t f, o ≠ .cells c t f) : (getObj r).run P w = .ok o w := by
  simp only [getObj, Sem.run, h]

theorem lookup_ok {t : TypeId} {m k v : AV} {ok : Bool} {c d : Value} (H : HS P G E L (obOf e h) len w) (hl : aLookup P t h m k ok = some v)
    (hm : Rep (rc E L (obOf e h) len w) m c) (hk : Rep (rc E L (obOf e h) len w) k d) : ∃ u, (Instr.lookup t c d ok).run P w = .ok u w ∧ Rep (rc E L (obOf e h) len w) v u := by
  unfold aLookup at hl
  split at hl <;> try cases hl
  rename_i kt et hu
  split at hl <;> try cases hl
  rename_i hf
  have hf : keyFits P kt k = true := by simpa using hf
  split at hl <;> try cases hl
  rename_i es hes
  split at hl <;> try cases hl
  rename_i r z hfe hz
  obtain ⟨zc, hzr, _, hzrep⟩ := run_zero (P := P) (X := rc E L (obOf e h) len w) w hz
  obtain ⟨dk, hdk, hsh⟩ := keyShape hf hk
  -- the entries
  have hents : ∃ ents : Array MapEntry, RepL (rc E L (obOf e h) len w) (es.map (·.1)) (ents.toList.map (·.key)) ∧ RepL (rc E L (obOf e h) len w) (es.map (·.2)) (ents.toList.map (·.val)) ∧
      ((c = .map none ∧ ents = #[]) ∨ ∃ r clock, c = .map (some r) ∧ (getObj r).run P w = .ok (.map ents clock) w) := by
    unfold mapE at hes
    split at hes
    · cases hes
      cases hm
      exact ⟨#[], by simpa using RepL.nil _, by simpa using RepL.nil _, .inl ⟨rfl, rfl⟩⟩
    · rename_i id
      split at hes <;> try cases hes
      rename_i hid
      cases hm
      obtain ⟨_, ents, clock, h1, h2, h3⟩ := H.objs (.obj id) (.map es) (by simp [obOf, hid])
      exact ⟨ents, h2, h3, .inr ⟨_, clock, rfl, run_getObj' (P := P) h1 (by simp)⟩⟩
    · cases hes
  obtain ⟨ents, hk1, hv1, hmap⟩ := hents
  obtain ⟨r', hfn, hcase⟩ := find_ok hk hsh hfe hk1 hv1
  obtain ⟨d', hd', hck, _⟩ := key_ok hf hk ents.isEmpty
  have hfk : (Instr.findKey kt d ents.toList).run P w = .ok r' w := by
    simp [Instr.findKey, run_und hdk, hfn]
  have hall : (Instr.lookup t c d ok).run P w = ((match r' with
      | some (_, v) => pure (v, true)
      | none => (do pure (← zeroValue et, false)) : Sem (Value × Bool)).run P w).andThen fun x w' => .ok (if ok then .tuple #[x.1, .bool x.2] else x.1) w' := by
    rcases hmap with ⟨rfl, rfl⟩ | ⟨r0, clock, rfl, hg⟩
    · simp only [Array.isEmpty_empty] at hck
      cases r' <;> simp_all [Instr.lookup, run_und hu]
    · cases r' <;> simp [Instr.lookup, run_und hu, hg, hck, hfk, hzr]
  rcases hcase with ⟨rfl, rfl⟩ | ⟨j, v, u, rfl, rfl, hvu, _⟩
  · cases ok
    · exact ⟨zc, by rw [hall]; simp [hzr], hzrep⟩
    · exact ⟨.tuple #[zc, .bool false], by rw [hall]; simp [hzr], Rep.tup [z, .bool false] [zc, .bool false] rfl (RepL.cons hzrep (RepL.cons (.bool _) (RepL.nil _))).2⟩
  · cases ok
    · exact ⟨u, by rw [hall]; simp, hvu⟩
    · exact ⟨.tuple #[u, .bool true], by rw [hall]; simp, Rep.tup [v, .bool true] [u, .bool true] rfl (RepL.cons hvu (RepL.cons (.bool _) (RepL.nil _))).2⟩
end
end Go.Proofs.YtdnhhdplcminlaaGreatDoor.AI
