/- Operations that make or change an object of the call's own. -/
import Derived.Test.YtdnhhdplcminlaaGreatDoorAiFrame
set_option maxHeartbeats 400000
set_option linter.unusedVariables false
set_option linter.unusedSimpArgs false
set_option linter.unusedSectionVars false
namespace Go.Proofs.YtdnhhdplcminlaaGreatDoor.AI
variable [Nu]

section
variable {P : Program} {G : Cfg} {E : Nat → Nat → Prop} {f : FuncId} {L : Lay} {s : St} {a : Act} {w : World}

/-- What an operation's effect comes to. -/
def Done (P : Program) (G : Cfg) (E : Nat → Nat → Prop) (f : FuncId) (L : Lay) (s : St) (o : Oper) (a : Act) (w : World) (x : Eff) : Prop :=
  ∃ nx v w' L', (execOp a.eval o).run P w = .ok nx w' ∧ (nx = .value v ∨ nx = .skip ∧ v = undef) ∧ FS P G E f L' (x.apply o s) (a.put o.dst v) w' ∧ PgS E L s w L' (x.apply o s) w'

def DstOk (G : Cfg) (f : FuncId) (o : Oper) (a : Act) : Prop := ∀ t, o.dst = some t → t < a.tmps.size ∧ G.boxes f t = false

theorem done_heap (F : FS P G E f L s a w) {o : Oper} (hd : DstOk G f o a) {h' : Heap} {v : AV} {c : Value} {nx : Next} {w' : World} {L' : Lay} (hrun : (execOp a.eval o).run P w = .ok nx w') (hnx : nx = .value c ∨ nx = .skip ∧ c = undef)
    (H : HS P G E L' (obOf s.env h') h'.length w') (hp : Pg E L (obOf s.env s.heap) s.heap.length w L' (obOf s.env h') h'.length w') (hloc : ∀ b cs, s.env b = .box cs → L'.loc (.box b) = L.loc (.box b))
    (hv : VRep (rc E L' (obOf s.env h') h'.length w') v c) : Done P G E f L s o a w (.heap h' v) := by
  obtain ⟨h1, h2⟩ := (F.move H hp.le hloc).put o.dst hd hv
  refine ⟨nx, c, w', L', hrun, hnx, h1, ?_⟩
  show Pg E L (obOf s.env s.heap) s.heap.length w L' (obOf (s.env.put o.dst v) h') h'.length w'
  rw [h2]
  exact hp

theorem done_val (F : FS P G E f L s a w) {o : Oper} (hd : DstOk G f o a) {v : AV} {c : Value} (hrun : (execOp a.eval o).run P w = .ok (.value c) w) (hv : VRep (rc E L (obOf s.env s.heap) s.heap.length w) v c) :
    Done P G E f L s o a w (.val v) := by
  have := done_heap F hd hrun (.inl rfl) F.hs (Pg.refl _ _ _ _ _) (fun _ _ _ => rfl) hv
  exact this

theorem done_world (F : FS P G E f L s a w) {o : Oper} (hd : DstOk G f o a) {v : AV} {c : Value} {w' : World} (hrun : (execOp a.eval o).run P w = .ok (.value c) w') (hw : Fr (fun _ => False) w w')
    (hv : VRep (rc E L (obOf s.env s.heap) s.heap.length w') v c) : Done P G E f L s o a w (.val v) := by
  obtain ⟨H, hp⟩ := Pg.world F.hs hw
  have := done_heap F hd hrun (.inl rfl) H hp (fun _ _ _ => rfl) hv
  exact this

theorem own_step {ob ob' : Key → Option AObj} {L' : Lay} {k0 : Key} (hob : ∀ k, k ≠ k0 → ob' k = ob k) (hloc : ∀ k, k ≠ k0 → L'.loc k = L.loc k) (hpl : (∃ o, ob k0 = some o ∧ L'.loc k0 = L.loc k0) ∨ w.heap.size ≤ L'.loc k0) :
    ∀ k o', ob' k = some o' → (∃ k1 o1, ob k1 = some o1 ∧ L.loc k1 = L'.loc k) ∨ w.heap.size ≤ L'.loc k := by
  intro k o' hk
  by_cases hkk : k = k0
  · subst hkk
    rcases hpl with ⟨o, h1, h2⟩ | h
    · exact .inl ⟨k, o, h1, h2.symm⟩
    · exact .inr h
  · rw [hob k hkk] at hk
    exact .inl ⟨k, o', hk, (hloc k hkk).symm⟩

/-- Where the objects lie, one of them elsewhere. -/
def Lay.at (L : Lay) (k0 : Key) (g : Nat) (tok : Bool) (cap : Nat) : Lay :=
  { loc := fun k => if k = k0 then g else L.loc k, isTok := fun id => if k0 = .obj id then tok else L.isTok id, cap := fun id => if k0 = .obj id then cap else L.cap id }

/-- A new object in a new block. -/
theorem HS.fresh {ob ob' : Key → Option AObj} {len len' : Nat} {w' : World} (H : HS P G E L ob len w) (k0 : Key) (o0 : AObj) (g : Nat) (tok : Bool) (cap : Nat)
    (hob : ∀ k, k ≠ k0 → ob' k = ob k) (hob0 : ob' k0 = some o0) (hlen : len ≤ len') (hid0 : ∀ id, k0 = .obj id → id < len' ∧ len ≤ id) (hnone : ob k0 = none)
    (hg : w.heap.size ≤ g) (hg' : g < w'.heap.size) (hw : Fr (fun _ => False) w w')
    (ho : (rc E L ob len w).Le (rc E (L.at k0 g tok cap) ob' len' w') → ObjR P (rc E (L.at k0 g tok cap) ob' len' w') w' k0 o0) :
    HS P G E (L.at k0 g tok cap) ob' len' w' ∧ Pg E L ob len w (L.at k0 g tok cap) ob' len' w' := by
  have hloc : ∀ k, k ≠ k0 → (L.at k0 g tok cap).loc k = L.loc k := fun k hk => by simp [Lay.at, hk]
  have hpl : (∃ o, ob k0 = some o ∧ (L.at k0 g tok cap).loc k0 = L.loc k0) ∨ w.heap.size ≤ (L.at k0 g tok cap).loc k0 := .inr (by simpa [Lay.at] using hg)
  have := H.step (L' := L.at k0 g tok cap) (w' := w') (len' := len') k0 o0 hob hob0 hlen (fun id h => (hid0 id h).1) (fun _ id h => (hid0 id h).2) hloc (fun id h => by simp [Lay.at, Ne.symm h])
    (fun id hid => by
      simp only [Lay.at]
      split
      · rename_i hk; have := (hid0 id hk).2; omega
      · rfl)
    (fun e n c h => by rw [hnone] at h; cases h) (fun o h => by rw [hnone] at h; cases h) hpl (by simpa [Lay.at] using hg') (hw.mono (fun _ h => h.elim)) ho
  exact ⟨this.1, this.2, hw.mono (fun _ h => h.elim), own_step hob hloc hpl⟩

/-- A cell of a new block, whatever it holds. -/
theorem new_stable {ob : Key → Option AObj} {len : Nat} {w' : World} {g : Nat} (H : HS P G E L ob len w) (hg : w.heap.size ≤ g) (j : Nat) : ¬ Un E L ob g j := by
  rintro (h | ⟨k, o, hk, hl, _⟩)
  · have := H.eold g j h; omega
  · have := H.lt k o hk; omega

theorem cell_of_block {w : World} {g : Nat} {us : List Value} {t : TypeId} {fr : Nat × Nat} (h : w.heap[g]? = some (.cells us.toArray t fr)) (j : Nat) : w.cell? ⟨g, j, none⟩ = us[j]? := by
  simp [World.cell?, h]

theorem alloc_heap_at (w : World) (o : Obj) : (w.alloc o).heap[w.heap.size]? = some o := heap_alloc_new w o

/-- A slice over a new block that nobody writes. -/
theorem rep_new {ob : Key → Option AObj} {len : Nat} (H : HS P G E L ob len w) {cs : List AV} {us : List Value} {e : TypeId} {n : Nat} (hr : RepC (rc E L ob len w) cs us) (hn : n ≤ maxLen) :
    Rep (rc E L ob len (w.alloc (.cells us.toArray e))) (.sl true n cs) (.slice (some ⟨w.heap.size, 0, none⟩) n n) := by
  have hle := (Pg.world H (Fr.alloc _ w (.cells us.toArray e))).2.le
  refine .sl true n cs _ n (fun j => us.getD j undef) (Nat.le_refl _) hn (fun _ => rfl) (fun j hj => ?_) (fun j hj => (hr.2.2 j hj).mono hle)
  have hlt : j < us.length := by rw [hr.1]; exact hj
  have ha : (⟨w.heap.size, 0, none⟩ : Addr).add j = ⟨w.heap.size, j, none⟩ := by unfold Addr.add; split <;> simp_all
  refine ⟨?_, ?_, ?_⟩
  · rw [ha, cell_of_block (alloc_heap_at w _) j]
    simp [hlt]
  · rw [ha]
    exact new_stable (w' := w) H (Nat.le_refl _) j
  · have : us.getD j undef = us[j] := by simp [hlt]
    rw [this]
    exact hr.2.1 _ (List.getElem_mem hlt)

theorem range_mod (l : List Value) (d : Value) : ∀ n : Nat, (List.range (n * l.length)).map (fun i => l.getD (i % l.length) d) = (List.replicate n l).flatten
  | 0 => by simp
  | n + 1 => by
    have ih := range_mod l d n
    rw [Nat.succ_mul, Nat.add_comm, List.range_add, List.map_append, List.replicate_succ, List.flatten_cons, ← ih]
    congr 1
    · apply List.ext_getElem?
      intro j
      by_cases hj : j < l.length
      · simp [hj, Nat.mod_eq_of_lt hj]
      · rw [List.getElem?_eq_none (by simp; omega), List.getElem?_eq_none (by omega)]
    · rw [List.map_map]
      apply List.map_congr_left
      intro i _
      simp

theorem RepC.app {X : RC} {cs ds : List AV} {vs us : List Value} (h : RepC X cs vs) (k : RepC X ds us) : RepC X (cs ++ ds) (vs ++ us) :=
  RepC.of (h.L.app k.L) (fun v hv => (List.mem_append.1 hv).elim (h.2.1 v) (k.2.1 v))

theorem RepC.rep {X : RC} {cs : List AV} {vs : List Value} (h : RepC X cs vs) : ∀ n : Nat, RepC X (List.replicate n cs).flatten (List.replicate n vs).flatten
  | 0 => by simpa using RepC.nil X
  | n + 1 => by
    rw [List.replicate_succ, List.flatten_cons, List.replicate_succ, List.flatten_cons]
    exact RepC.app h (RepC.rep h n)

theorem buildSlice_ok (H : HS P G E L (obOf s.env s.heap) s.heap.length w) {t : TypeId} {n : Nat} {ps : List (Nat × AV)} {qs : List (Nat × Value)} {v : AV} (h : aBuildSlice P t n ps = some v) (hq : PRep (rc E L (obOf s.env s.heap) s.heap.length w) ps qs) :
    ∃ u w', (Instr.buildSlice t n qs.toArray).run P w = .ok u w' ∧ Fr (fun _ => False) w w' ∧ Rep (rc E L (obOf s.env s.heap) s.heap.length w') v u := by
  unfold aBuildSlice at h
  split at h <;> try cases h
  rename_i e hu
  split at h <;> try cases h
  rename_i sz z hs hz
  split at h <;> try cases h
  rename_i hc
  obtain ⟨hc1, hc2, hc3, hc4⟩ := hc
  obtain ⟨cs, hf, rfl⟩ := Option.map_eq_some_iff.1 h
  obtain ⟨c, hrun, _, hr⟩ := run_zero (X := rc E L (obOf s.env s.heap) s.heap.length w) w hz
  have hcell := cells_ok hr hc4
  have hlen : c.cells.toList.length = sz := by rw [hcell.1, hc3]
  obtain ⟨us, he, hus⟩ := fill_ok (place' := fun i => some (i * sz, sz)) (fun i _ => rfl) hf (hcell.rep n) hq
  refine ⟨_, w.alloc (.cells us.toArray e), ?_, Fr.alloc _ w _, rep_new H hus (by simp only [maxLen]; have : n ≤ n * sz := Nat.le_mul_of_pos_right _ hc2; omega)⟩
  have hsz' : c.cells.size = sz := by simpa using hlen
  have hinit : (Array.range (n * sz)).map (fun i => c.cells[i % c.cells.size]!) = (List.replicate n c.cells.toList).flatten.toArray := by
    rw [← range_mod c.cells.toList default n]
    apply Array.toList_inj.1
    simp only [Array.toList_map, Array.toList_range, Array.length_toList, hsz']
    apply List.map_congr_left
    intro i _
    have hi : i % sz < c.cells.size := by rw [hsz']; exact Nat.mod_lt _ hc2
    simp [getElem!_pos, hi]
  simp only [Instr.buildSlice, Sem.run_bind, run_und hu, Result.andThen_ok, run_size hs]
  rw [if_neg (by omega)]
  by_cases h0 : n * sz = 0
  · have : n = 0 := by
      rcases Nat.mul_eq_zero.1 h0 with h | h <;> omega
    subst this
    simp only [List.replicate_zero, List.flatten_nil] at he
    have hr0 : Array.range 0 = (#[] : Array Nat) := rfl
    simp [he, newRow, hr0]
  · rw [if_neg h0]
    simp only [Sem.run_bind, hrun, Result.andThen_ok, Sem.run_pure, hinit, he, newRow, run_newObj]
    rfl
end
end Go.Proofs.YtdnhhdplcminlaaGreatDoor.AI
