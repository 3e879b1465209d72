/- Variables, stores, rows and maps that the call makes. -/
import Derived.Test.YtdnhhdplcminlaaGreatDoorAiEff1
set_option maxHeartbeats 400000
set_option linter.unusedVariables false
set_option linter.unusedSimpArgs false
set_option linter.unusedSectionVars false
namespace Go.Proofs.YtdnhhdplcminlaaGreatDoor.AI
variable [Nu]

section
variable {P : Program} {G : Cfg} {E : Nat → Nat → Prop} {f : FuncId} {L : Lay} {s : St} {a : Act} {w : World}

theorem obOf_box (e : Env) (h : Heap) (d : Nat) (cs : List AV) : (∀ k, k ≠ Key.box d → obOf (e.upd d (.box cs)) h k = obOf e h k) ∧ obOf (e.upd d (.box cs)) h (.box d) = some (.arr cs) := by
  refine ⟨fun k hk => ?_, by simp [obOf, Env.upd, boxO]⟩
  cases k with
  | obj id => rfl
  | box t =>
    have : t ≠ d := fun he => hk (by rw [he])
    simp [obOf, Env.upd, this]

theorem obOf_push (e : Env) (h : Heap) (o : AObj) : (∀ k, k ≠ Key.obj h.length → obOf e (h ++ [some o]) k = obOf e h k) ∧ obOf e (h ++ [some o]) (.obj h.length) = some o := by
  refine ⟨fun k hk => ?_, by simp [obOf]⟩
  cases k with
  | box t => rfl
  | obj id =>
    have hne : id ≠ h.length := fun he => hk (by rw [he])
    simp only [obOf]
    by_cases hlt : id < h.length
    · rw [List.getElem?_append_left hlt]
    · rw [List.getElem?_eq_none (by simp; omega), List.getElem?_eq_none (by omega)]

theorem obOf_set (e : Env) (h : Heap) (id : Nat) (o : AObj) (hid : id < h.length) : (∀ k, k ≠ Key.obj id → obOf e (h.set id (some o)) k = obOf e h k) ∧ obOf e (h.set id (some o)) (.obj id) = some o := by
  refine ⟨fun k hk => ?_, by simp [obOf, hid]⟩
  cases k with
  | box t => rfl
  | obj i =>
    have hne : id ≠ i := fun he => hk (by rw [he])
    simp [obOf, List.getElem?_set, hne]

/-- A new variable in the frame. -/
theorem done_newbox (F : FS P G E f L s a w) {o : Oper} {d : Nat} (hd : o.dst = some d) (hlt : d < a.tmps.size) (hb : G.boxes f d = true) (hu : s.env d = .undef) {cs : List AV} {us : List Value} {e : TypeId}
    (hrun : (execOp a.eval o).run P w = .ok (.value (.pointer (some ⟨w.heap.size, 0, none⟩))) (w.alloc (.cells us.toArray e))) (hr : RepC (rc E L (obOf s.env s.heap) s.heap.length w) cs us) :
    Done P G E f L s o a w (.val (.box cs)) := by
  obtain ⟨ob1, ob2⟩ := obOf_box s.env s.heap d cs
  have hnone : obOf s.env s.heap (.box d) = none := by simp [obOf, hu, boxO]
  obtain ⟨H, hp⟩ := F.hs.fresh (len' := s.heap.length) (w' := w.alloc (.cells us.toArray e)) (.box d) (.arr cs) w.heap.size false 0 ob1 ob2 (Nat.le_refl _) (fun id h => by cases h) hnone (Nat.le_refl _) (by simp) (Fr.alloc _ w _)
    (fun hle => ⟨(fun id h => by cases h), us.toArray, e, by
      show (w.alloc _).heap[(L.at (.box d) w.heap.size false 0).loc (.box d)]? = _
      simp only [Lay.at, if_true]
      exact alloc_heap_at w _, by
      have := hr.mono hle
      rw [show us.toArray.toList.take cs.length = us by rw [← hr.1]; simp]
      exact this⟩)
  refine ⟨_, _, _, L.at (.box d) w.heap.size false 0, hrun, .inl rfl, ?_, ?_⟩
  · show FS P G E f _ ⟨s.env.put o.dst (.box cs), s.heap⟩ _ _
    rw [hd]
    refine ⟨H, ?_, ?_, F.dfr, ?_⟩
    · intro t ht
      simp only [Act.put, Array.size_setIfInBounds] at ht
      show TRep _ t (s.env.upd d (.box cs) t) _
      simp only [Env.upd, Act.put]
      by_cases htd : t = d
      · subst htd
        rw [if_pos rfl]
        refine .inr ⟨cs, rfl, ob2, ?_⟩
        simp [hlt, rc, Lay.at]
      · rw [if_neg htd]
        have hx : ((a.tmps.setIfInBounds d (.pointer (some ⟨w.heap.size, 0, none⟩))).getD t undef) = a.tmps.getD t undef := by simp [Array.getElem?_setIfInBounds, Ne.symm htd]
        rw [hx]
        have hkeep : ∀ b cs', obOf s.env s.heap (.box b) = some (.arr cs') → (∃ cs'', obOf (s.env.upd d (.box cs)) s.heap (.box b) = some (.arr cs'')) ∧ (L.at (.box d) w.heap.size false 0).loc (.box b) = L.loc (.box b) := by
          intro b cs' hb'
          have hbd : b ≠ d := fun he => by subst he; rw [hnone] at hb'; cases hb'
          exact ⟨⟨cs', by rw [ob1 _ (by simpa using hbd)]; exact hb'⟩, by simp [Lay.at, hbd]⟩
        rcases F.env t ht with r | ⟨cs', he, ho, hc⟩
        · exact TRep.mono hp.le hkeep (fun cs => r.nobox cs) (.inl r)
        · obtain ⟨_, h2⟩ := hkeep t cs' ho
          exact .inr ⟨cs', he, by show obOf (s.env.upd d (.box cs)) s.heap (.box t) = _; rw [ob1 _ (by simpa using htd)]; exact ho, by rw [hc]; show _ = Value.pointer (some ⟨(L.at (.box d) w.heap.size false 0).loc (.box t), 0, none⟩); rw [h2]; rfl⟩
    · intro t ht
      simp only [Act.put, Array.size_setIfInBounds] at ht
      show s.env.upd d (.box cs) t = _
      rw [Env.upd, if_neg (by omega)]
      exact F.ein t ht
    · intro t cs' he
      have he : s.env.upd d (.box cs) t = .box cs' := he
      simp only [Env.upd] at he
      by_cases htd : t = d
      · subst htd; exact hb
      · rw [if_neg htd] at he; exact F.bx t cs' he
  · show Pg _ _ _ _ _ _ (obOf (s.env.put o.dst (.box cs)) s.heap) _ _
    rw [hd]
    exact hp

theorem setRow_fr {g : Nat} {w : World} (us : Array Value) {O : Nat → Prop} (hO : O g) : Fr O w (w.setRow g us) :=
  ⟨rfl, rfl, rfl, by simp, fun k _ hk => setRow_other w g k us (fun he => hk (he ▸ hO))⟩

/-- The cells of an object of the call's own are written. -/
theorem HS.write {ob ob' : Key → Option AObj} {len : Nat} (H : HS P G E L ob len w) (k0 : Key) {cs cs' : List AV} {vs us : Array Value} {t : TypeId} (ho : ob k0 = some (.arr cs)) (hob : ∀ k, k ≠ k0 → ob' k = ob k) (hob0 : ob' k0 = some (.arr cs'))
    (hv : w.heap[L.loc k0]? = some (.cells vs t (0, 0))) (hr : RepC (rc E L ob len w) cs' (us.toList.take cs'.length)) :
    HS P G E L ob' len (w.setRow (L.loc k0) us) ∧ Pg E L ob len w L ob' len (w.setRow (L.loc k0) us) := by
  have hpl : (∃ o, ob k0 = some o ∧ L.loc k0 = L.loc k0) ∨ w.heap.size ≤ L.loc k0 := .inl ⟨_, ho, rfl⟩
  have hfr : Fr (fun g => (∃ o, ob k0 = some o) ∧ g = L.loc k0) w (w.setRow (L.loc k0) us) := setRow_fr us ⟨⟨_, ho⟩, rfl⟩
  have := H.step (L' := L) (w' := w.setRow (L.loc k0) us) (len' := len) k0 (.arr cs') hob hob0 (Nat.le_refl _) (fun id h => H.idlt id _ (h ▸ ho)) (fun h => by rw [ho] at h; cases h) (fun _ _ => rfl) (fun _ _ => rfl) (fun _ _ => rfl)
    (fun e n c h => by rw [ho] at h; cases h) (fun o h => by rw [ho] at h; cases h; exact fun _ => ⟨rfl, fun e n c h => by cases h⟩) hpl (by simpa using H.lt k0 _ ho) hfr
    (fun hle => ⟨(H.objs k0 _ ho).1, us, t, setRow_heap w _ vs us t _ hv, hr.mono hle⟩)
  exact ⟨this.1, this.2, hfr.mono (fun g h => ⟨k0, _, ho, h.2⟩), own_step hob (fun _ _ => rfl) hpl⟩

theorem splice_some {cs us ds : List AV} {off : Nat} (h : splice cs off us = some ds) : off + us.length ≤ cs.length ∧ ds = cs.take off ++ us ++ cs.drop (off + us.length) := by
  unfold splice at h
  split at h
  · cases h; exact ⟨by assumption, rfl⟩
  · cases h

theorem take_splice {vs : List Value} {n off : Nat} {us : List Value} (h : off + us.length ≤ n) (hn : n ≤ vs.length) : (vs.take off ++ us ++ vs.drop (off + us.length)).take n = (vs.take n).take off ++ us ++ (vs.take n).drop (off + us.length) := by
  apply List.ext_getElem?
  intro i
  simp only [List.getElem?_take, List.getElem?_append, List.length_append, List.length_take, List.getElem?_drop]
  have e1 : min off vs.length = off := by omega
  have e2 : min off (min n vs.length) = off := by omega
  simp only [e1, e2]
  by_cases hi : i < n
  · rw [if_pos hi]
    by_cases h1 : i < off
    · simp [h1, show i < off + us.length by omega, hi]
    · by_cases h2 : i < off + us.length
      · simp [h1, h2]
      · simp only [h1, h2, if_false]
        rw [if_pos (by omega)]
  · rw [if_neg hi]
    rw [if_neg (by omega), if_neg (by omega)]

/-- A store through a pointer, in memory. -/
theorem store_run {k0 : Key} {ob : Key → Option AObj} {len : Nat} (H : HS P G E L ob len w) {cs us ds : List AV} {off : Nat} {t : TypeId} {c : Value} {sz : Nat} (ho : ob k0 = some (.arr cs)) (hs : szOf P t = some sz) (hl : (us.length = sz)) (hsp : splice cs off us = some ds)
    (hc : RepC (rc E L ob len w) us c.cells.toList) : ∃ vs ty, w.heap[L.loc k0]? = some (.cells vs ty (0, 0)) ∧ ∃ vs' : Array Value,
      (Instr.storeAt t (.pointer (some ((⟨L.loc k0, 0, none⟩ : Addr).add off))) c).run P w = .ok () (w.setRow (L.loc k0) vs') ∧ RepC (rc E L ob len w) ds (vs'.toList.take ds.length) := by
  obtain ⟨hle, rfl⟩ := splice_some hsp
  obtain ⟨_, vs, ty, hv, hr⟩ := H.objs k0 _ ho
  have hv : w.heap[L.loc k0]? = some (.cells vs ty (0, 0)) := hv
  have hr1 := hr.1
  simp only [List.length_take, Array.length_toList] at hr1
  have hcl : c.cells.toList.length = us.length := hc.1
  have hadd : (⟨L.loc k0, 0, none⟩ : Addr).add off = ⟨L.loc k0, off, none⟩ := by unfold Addr.add; split <;> simp_all
  have hst := run_storeCells_at P (L.loc k0) off ty c.cells.toList 0 vs w hv (by rw [hcl]; omega) hc.2.1
  refine ⟨vs, ty, hv, (vs.toList.take (off + 0) ++ c.cells.toList ++ vs.toList.drop (off + 0 + c.cells.toList.length)).toArray, ?_, ?_⟩
  · have hsz : c.cells.size = sz := by rw [← hl, ← hcl]; simp
    simp only [Instr.storeAt, Instr.sureAddr, Sem.run_bind, Sem.run_pure, Result.andThen_ok, storeVar, run_size hs, hsz, ne_eq, not_true_eq_false, if_false, hadd]
    exact hst
  · have hlen : (cs.take off ++ us ++ cs.drop (off + us.length)).length = cs.length := by simp; omega
    rw [hlen]
    simp only [Nat.add_zero]
    rw [take_splice (by rw [hcl]; exact hle) (by simpa using (by omega : cs.length ≤ vs.size))]
    exact hr.splice hc

theorem store_ok (F : FS P G E f L s a w) {o : Oper} (hd : DstOk G f o a) (hdn : o.dst = none) {t : TypeId} {pa xa : Operand} (hop : o.op = .store t pa xa) {x : Eff} (h : aStore P s.env s.heap t (evalO G s.env pa) (evalO G s.env xa) = some x) : Done P G E f L s o a w x := by
  unfold aStore at h
  split at h <;> try cases h
  rename_i sz hs
  split at h <;> try cases h
  rename_i hc
  simp only [Bool.or_eq_true, decide_eq_true_eq, Bool.not_eq_true', not_or, Bool.not_eq_false, bne_iff_ne, ne_eq, Decidable.not_not] at hc
  have hlen : ((cellsOf (evalO G s.env xa)).map denil).length = sz := by simpa using hc.1
  have hval := (F.eval xa).solid hc.2
  have hcell := (cells_ok hval hc.2).denil
  have hptr := F.eval pa
  split at h
  · rename_i b off hpa
    split at h <;> try cases h
    rename_i cs hb
    obtain ⟨ds, hsp, rfl⟩ := Option.map_eq_some_iff.1 h
    rw [hpa] at hptr
    obtain ⟨_, hpc⟩ := hptr.bp
    have ho : obOf s.env s.heap (.box b) = some (.arr cs) := by simp [obOf, boxO, hb]
    obtain ⟨vs, ty, hv, vs', hrun, hr⟩ := store_run F.hs ho hs hlen hsp hcell
    obtain ⟨ob1, ob2⟩ := obOf_box s.env s.heap b ds
    obtain ⟨H, hp⟩ := F.hs.write (.box b) ho ob1 ob2 hv hr
    have hx : (execOp a.eval o).run P w = .ok .skip (w.setRow (L.loc (.box b)) vs') := by
      have hrun' : (Instr.storeAt t (a.eval pa) (a.eval xa)).run P w = .ok () (w.setRow (L.loc (.box b)) vs') := by rw [hpc]; exact hrun
      simp [execOp, hop, hrun']
    refine ⟨_, undef, _, L, hx, .inr ⟨rfl, rfl⟩, ?_, ?_⟩
    · show FS P G E f L ⟨(s.env.upd b (.box ds)).put o.dst .undef, s.heap⟩ _ _
      rw [hdn]
      refine ⟨H, fun t ht => ?_, fun t ht => ?_, F.dfr, fun t cs' he => ?_⟩
      · show TRep _ t (s.env.upd b (.box ds) t) _
        simp only [Env.upd, Act.put] at ht ⊢
        have hkeep : ∀ b' cs', obOf s.env s.heap (.box b') = some (.arr cs') → (∃ cs'', obOf (s.env.upd b (.box ds)) s.heap (.box b') = some (.arr cs'')) ∧ L.loc (.box b') = L.loc (.box b') := by
          intro b' cs' hb'
          refine ⟨?_, rfl⟩
          by_cases hbb : b' = b
          · subst hbb; exact ⟨ds, ob2⟩
          · exact ⟨cs', by rw [ob1 _ (by simpa using hbb)]; exact hb'⟩
        by_cases htb : t = b
        · subst htb
          rw [if_pos rfl]
          rcases F.env t ht with r | ⟨cs', he, _, hc'⟩
          · exact absurd hb (r.nobox cs)
          · exact .inr ⟨ds, rfl, ob2, hc'⟩
        · rw [if_neg htb]
          rcases F.env t ht with r | ⟨cs', he, ho', hc'⟩
          · exact TRep.mono hp.le hkeep (fun cs => r.nobox cs) (.inl r)
          · exact .inr ⟨cs', he, by show obOf (s.env.upd b (.box ds)) s.heap (.box t) = _; rw [ob1 _ (by simpa using htb)]; exact ho', hc'⟩
      · show s.env.upd b (.box ds) t = _
        have hne : t ≠ b := fun he => by subst he; have := F.ein t ht; rw [hb] at this; cases this
        rw [Env.upd, if_neg hne]
        exact F.ein t ht
      · have he : s.env.upd b (.box ds) t = .box cs' := he
        simp only [Env.upd] at he
        by_cases htb : t = b
        · subst htb; exact F.bx t cs hb
        · rw [if_neg htb] at he; exact F.bx t cs' he
    · show Pg _ _ _ _ _ _ (obOf ((s.env.upd b (.box ds)).put o.dst .undef) s.heap) _ _
      rw [hdn]
      exact hp
  · rename_i id off hpa
    split at h <;> try cases h
    rename_i cs hb
    obtain ⟨ds, hsp, rfl⟩ := Option.map_eq_some_iff.1 h
    rw [hpa] at hptr
    have hptr := hptr.rep (by simp)
    have ho : obOf s.env s.heap (.obj id) = some (.arr cs) := by simp [obOf, hb]
    have hid : id < s.heap.length := F.hs.idlt id _ ho
    generalize hpc : a.eval pa = pc at hptr
    cases hptr
    obtain ⟨vs, ty, hv, vs', hrun, hr⟩ := store_run F.hs ho hs hlen hsp hcell
    obtain ⟨ob1, ob2⟩ := obOf_set s.env s.heap id (.arr ds) hid
    have hlen' : (s.heap.set id (some (.arr ds))).length = s.heap.length := by simp
    obtain ⟨H, hp⟩ := F.hs.write (.obj id) ho ob1 ob2 hv hr
    have hx : (execOp a.eval o).run P w = .ok .skip (w.setRow (L.loc (.obj id)) vs') := by
      have hrun' : (Instr.storeAt t (a.eval pa) (a.eval xa)).run P w = .ok () (w.setRow (L.loc (.obj id)) vs') := by rw [hpc]; exact hrun
      simp [execOp, hop, hrun']
    refine done_heap F hd hx (.inr ⟨rfl, rfl⟩) (L' := L) ?_ ?_ (fun _ _ _ => rfl) (.inl (.undef _))
    · rw [hlen']; exact H
    · rw [hlen']; exact hp
  · cases h
end
end Go.Proofs.YtdnhhdplcminlaaGreatDoor.AI
