/- Rows, maps, iterators and variables in the heap. -/
import Derived.Test.YtdnhhdplcminlaaGreatDoorAiEff3
import Derived.Laws.MakeOwn
import Derived.MapKept
set_option maxHeartbeats 400000
set_option linter.unusedVariables false
set_option linter.unusedSimpArgs false
set_option linter.unusedSectionVars false
namespace Go.Proofs.YtdnhhdplcminlaaGreatDoor.AI
variable [Nu]

section
variable {P : Program} {G : Cfg} {E : Nat → Nat → Prop} {f : FuncId} {L : Lay} {s : St} {a : Act} {w : World}

theorem made_cells (z : Array Value) (n : Nat) (hz : 0 < z.size) : madeCells z (n * z.size) = (List.replicate n z.toList).flatten.toArray := by
  unfold madeCells
  rw [← range_mod z.toList default n]
  apply Array.toList_inj.1
  simp only [Array.toList_map, Array.toList_range, Array.length_toList]
  apply List.map_congr_left
  intro i _
  have hi : i % z.size < z.size := Nat.mod_lt _ hz
  simp [getElem!_pos, hi]

theorem makeSlice_ok (F : HS P G E L (obOf s.env s.heap) s.heap.length w) {t : TypeId} {l c : AV} {x : Eff} {lv cv : Value} (h : aMakeSlice P t s.heap l c = some x) (hl : Rep (rc E L (obOf s.env s.heap) s.heap.length w) l lv) (hc : Rep (rc E L (obOf s.env s.heap) s.heap.length w) c cv) :
    EffB P G E L s w (Instr.makeSlice t lv cv) x := by
  unfold aMakeSlice at h
  split at h <;> try cases h
  rename_i l c elem hu
  split at h <;> try cases h
  rename_i info z hi hz
  split at h <;> try cases h
  rename_i hcond
  obtain ⟨rfl, h0, hmax, hsz, hby, hlz, hsol⟩ := hcond
  cases hl
  cases hc
  obtain ⟨zv, hzv, hzs⟩ := zero_cells hi hz hsol hlz
  have hzrep : RepC (rc E L (obOf s.env s.heap) s.heap.length w) (cellsOf z) zv.cells.toList := by
    have hzz : z = ofVal zv := by
      simp only [zeroOf, hi, Option.bind_some, hzv, Option.map_some, Option.some.injEq] at hz
      exact hz.symm
    subst hzz
    exact cells_ok (rep_ofVal _ zv) hsol
  obtain ⟨n, rfl⟩ := Int.eq_ofNat_of_zero_le h0
  simp only [Int.toNat_natCast] at *
  have hn : n ≤ maxN := by omega
  have hb : (info.bytes : Int) * (n : Int) ≤ 281474976710656 := by
    have := Nat.mul_le_mul hby hn
    simp only [maxN] at this
    have h2 : ((info.bytes * n : Nat) : Int) ≤ 281474976710656 := by omega
    rwa [Int.natCast_mul] at h2
  have hrun := run_make (P := P) w t elem info zv hu hi hzv .i64 .i64 n n (by omega) (Int.le_refl _) hb (by simp only [maxN] at hn; omega)
  simp only [Int.toNat_natCast] at hrun
  rw [← hzs, made_cells zv.cells n (by omega)] at hrun
  have hrc := hzrep.rep n
  have hlen : (List.replicate n (cellsOf z)).flatten.length = n * info.size := by simp [hlz]
  have := new_row F hi (Fr.refl _ w) rfl hrc hlen (Nat.le_refl n) (by simp only [maxN] at hn; simp only [maxLen]; omega) (rest := #[]) (by rw [hrc.1, hlen]; simp) (by simpa using hrun) true (.inl rfl)
  simp only [grown, if_true, hlen] at this
  exact this

/-- A variable in the heap. -/
theorem new_arr (F : HS P G E L (obOf s.env s.heap) s.heap.length w) {r : Sem Value} {cs : List AV} {us : List Value} {e : TypeId} (hr : RepC (rc E L (obOf s.env s.heap) s.heap.length w) cs us)
    (hrun : r.run P w = .ok (.pointer (some ⟨w.heap.size, 0, none⟩)) (w.alloc (.cells us.toArray e))) : EffB P G E L s w r (.heap (s.heap ++ [some (.arr cs)]) (.ptr s.heap.length 0)) := by
  have hnone : obOf s.env s.heap (.obj s.heap.length) = none := by simp [obOf]
  obtain ⟨ob1, ob2⟩ := obOf_push s.env s.heap (.arr cs)
  obtain ⟨H, hp⟩ := F.fresh (len' := (s.heap ++ [some (AObj.arr cs)]).length) (w' := w.alloc (.cells us.toArray e)) (.obj s.heap.length) (.arr cs) w.heap.size false 0 ob1 ob2 (by simp) (fun id h => by cases h; simp) hnone (Nat.le_refl _) (by simp) (Fr.alloc _ w _)
    (fun hle => ⟨fun id h => by cases h; simp [rc, Lay.at], us.toArray, e, by simpa [rc, Lay.at] using alloc_heap_at w (.cells us.toArray e), by
      have := hr.mono hle
      rw [show us.toArray.toList.take cs.length = us by rw [← hr.1]; simp]
      exact this⟩)
  refine ⟨_, _, _, hrun, H, hp, fun b => by simp [Lay.at], ?_⟩
  have := Rep.ptr (X := rc E (L.at (.obj s.heap.length) w.heap.size false 0) (obOf s.env (s.heap ++ [some (AObj.arr cs)])) (s.heap ++ [some (AObj.arr cs)]).length (w.alloc (.cells us.toArray e))) s.heap.length 0 (by simp [rc]) (by simp [rc, Lay.at])
  simpa [rc, Lay.at, Addr.add] using this

theorem makeMap_ok (F : HS P G E L (obOf s.env s.heap) s.heap.length w) (t : TypeId) : EffB P G E L s w (Instr.makeMap t none) (.heap (s.heap ++ [some (.map [])]) (.mapv s.heap.length)) := by
  have hnone : obOf s.env s.heap (.obj s.heap.length) = none := by simp [obOf]
  obtain ⟨ob1, ob2⟩ := obOf_push s.env s.heap (.map [])
  obtain ⟨H, hp⟩ := F.fresh (len' := (s.heap ++ [some (AObj.map [])]).length) (w' := w.alloc (.map #[] 0)) (.obj s.heap.length) (.map []) w.heap.size false 0 ob1 ob2 (by simp) (fun id h => by cases h; simp) hnone (Nat.le_refl _) (by simp) (Fr.alloc _ w _)
    (fun hle => ⟨fun id h => by cases h; simp [rc, Lay.at], #[], 0, by simpa [rc, Lay.at] using alloc_heap_at w (.map #[] 0), by simpa using RepL.nil _, by simpa using RepL.nil _⟩)
  refine ⟨.map (some w.heap.size), _, _, by simp [Instr.makeMap], H, hp, fun b => by simp [Lay.at], ?_⟩
  have := Rep.mapv (X := rc E (L.at (.obj s.heap.length) w.heap.size false 0) (obOf s.env (s.heap ++ [some (AObj.map [])])) (s.heap ++ [some (AObj.map [])]).length (w.alloc (.map #[] 0))) s.heap.length (by simp [rc]) (by simp [rc, Lay.at])
  simpa [rc, Lay.at] using this

theorem range_ok (F : HS P G E L (obOf s.env s.heap) s.heap.length w) {t : TypeId} (hu : P.underlying t = some .string) (b : List UInt8) : EffB P G E L s w (Instr.range t (.string ⟨b.toArray⟩)) (.heap (s.heap ++ [some (.sit b 0)]) (.it s.heap.length)) := by
  have hnone : obOf s.env s.heap (.obj s.heap.length) = none := by simp [obOf]
  obtain ⟨ob1, ob2⟩ := obOf_push s.env s.heap (.sit b 0)
  obtain ⟨H, hp⟩ := F.fresh (len' := (s.heap ++ [some (AObj.sit b 0)]).length) (w' := w.alloc (.stringIter ⟨b.toArray⟩ 0)) (.obj s.heap.length) (.sit b 0) w.heap.size false 0 ob1 ob2 (by simp) (fun id h => by cases h; simp) hnone (Nat.le_refl _) (by simp) (Fr.alloc _ w _)
    (fun hle => ⟨fun id h => by cases h; simp [rc, Lay.at], by simpa [rc, Lay.at] using alloc_heap_at w (.stringIter ⟨b.toArray⟩ 0)⟩)
  refine ⟨_, _, _, by simp [Instr.range, run_und hu]; rfl, H, hp, fun b => by simp [Lay.at], ?_⟩
  have := Rep.it (X := rc E (L.at (.obj s.heap.length) w.heap.size false 0) (obOf s.env (s.heap ++ [some (AObj.sit b 0)])) (s.heap ++ [some (AObj.sit b 0)]).length (w.alloc (.stringIter ⟨b.toArray⟩ 0))) s.heap.length (by simp [rc]) (by simp [rc, Lay.at])
  simpa [rc, Lay.at] using this

/-- An object that is no token is changed in its block. -/
theorem HS.change {ob ob' : Key → Option AObj} {len : Nat} {w' : World} (H : HS P G E L ob len w) (k0 : Key) {o o0 : AObj} (ho : ob k0 = some o) (hn : ∀ e n c, o ≠ .tok e n c) (hn0 : ∀ e n c, o0 ≠ .tok e n c) (hob : ∀ k, k ≠ k0 → ob' k = ob k) (hob0 : ob' k0 = some o0)
    (hfr : Fr (fun g => g = L.loc k0) w w') (hr : (rc E L ob len w).Le (rc E L ob' len w') → ObjR P (rc E L ob' len w') w' k0 o0) :
    HS P G E L ob' len w' ∧ Pg E L ob len w L ob' len w' := by
  have hpl : (∃ o, ob k0 = some o ∧ L.loc k0 = L.loc k0) ∨ w.heap.size ≤ L.loc k0 := .inl ⟨_, ho, rfl⟩
  have hfr' : Fr (fun g => (∃ o, ob k0 = some o) ∧ g = L.loc k0) w w' := hfr.mono (fun g hg => ⟨⟨_, ho⟩, hg⟩)
  have := H.step (L' := L) (w' := w') (len' := len) k0 o0 hob hob0 (Nat.le_refl _) (fun id h => H.idlt id _ (h ▸ ho)) (fun h => by rw [ho] at h; cases h) (fun _ _ => rfl) (fun _ _ => rfl) (fun _ _ => rfl)
    (fun e n c h => by rw [ho] at h; cases h; exact absurd rfl (hn _ _ _)) (fun o h => fun _ => ⟨rfl, hn0⟩) hpl (Nat.lt_of_lt_of_le (H.lt k0 _ ho) hfr.size) hfr' hr
  exact ⟨this.1, this.2, hfr.mono (fun g h => ⟨k0, _, ho, h⟩), own_step hob (fun _ _ => rfl) hpl⟩

theorem set_fr {r : Nat} {w : World} (o : Obj) : Fr (fun g => g = r) w { w with heap := w.heap.setIfInBounds r o } :=
  ⟨rfl, rfl, rfl, by simp, fun g _ hg => by simp [Array.getElem?_setIfInBounds, Ne.symm hg]⟩

theorem set_at {r : Nat} {w : World} (o : Obj) (h : r < w.heap.size) : ({ w with heap := w.heap.setIfInBounds r o } : World).heap[r]? = some o := by simp [h]

theorem run_setObj' {r : Nat} {o o' : Obj} (h : w.heap[r]? = some o) (hc : ∀ c t f, o ≠ .cells c t f) (hc' : ∀ c t f, o' ≠ .cells c t f) : (setObj r o').run P w = .ok () { w with heap := w.heap.setIfInBounds r o' } := by
  simp only [setObj, Sem.run, h]
  try rfl

theorem next_ok (F : HS P G E L (obOf s.env s.heap) s.heap.length w) {x : AV} {c : Value} {r : Eff} (ty : TypeId) (h : aNext s.heap x = some r) (hx : Rep (rc E L (obOf s.env s.heap) s.heap.length w) x c) : EffB P G E L s w (Instr.next c true ty) r := by
  unfold aNext at h
  split at h <;> try cases h
  rename_i id
  split at h <;> try cases h
  rename_i b pos hid
  cases hx
  have hob : obOf s.env s.heap (.obj id) = some (.sit b pos) := by simp [obOf, hid]
  obtain ⟨hnt, hblk⟩ := F.objs _ _ hob
  replace hblk : w.heap[L.loc (.obj id)]? = some (.stringIter ⟨b.toArray⟩ pos) := hblk
  have hget := run_getObj' (P := P) hblk (by simp)
  have hsz : (⟨b.toArray⟩ : ByteArray).size = b.length := by simp [ByteArray.size]
  split at h
  · rename_i hlt
    generalize hdec : Utf8.decode ⟨b.toArray⟩ pos = q at h
    obtain ⟨ch, width⟩ := q
    simp only [Option.some.injEq] at h
    subst h
    have hidl := F.idlt id _ hob
    obtain ⟨ob1, ob2⟩ := obOf_set s.env s.heap id (.sit b (pos + width)) hidl
    have hlen' : (s.heap.set id (some (AObj.sit b (pos + width)))).length = s.heap.length := by simp
    have hset := run_setObj' (P := P) (o' := .stringIter ⟨b.toArray⟩ (pos + width)) hblk (by simp) (by simp)
    obtain ⟨H, hp⟩ := F.change (.obj id) hob (by simp) (o0 := .sit b (pos + width)) (by simp) ob1 ob2 (w' := { w with heap := w.heap.setIfInBounds (L.loc (.obj id)) (.stringIter ⟨b.toArray⟩ (pos + width)) }) (set_fr _)
      (fun hle => ⟨hnt, set_at _ (F.lt _ _ hob)⟩)
    refine ⟨_, _, L, ?_, by rw [hlen']; exact H, by rw [hlen']; exact hp, fun _ => rfl, Rep.tup [.bool true, .int .i64 pos, .int .i32 ch] [.bool true, .int .i64 pos, .int .i32 ch] rfl (RepL.cons (.bool _) (RepL.cons (.int _ _) (RepL.cons (.int _ _) (RepL.nil _)))).2⟩
    simp only [Instr.next, rc, Sem.run_bind, hget, Result.andThen_ok, hsz, if_pos hlt, hdec, hset, Sem.run_pure]
    rfl
  · rename_i hlt
    simp only [Option.some.injEq] at h
    subst h
    refine ⟨_, _, L, ?_, F, Pg.refl _ _ _ _ _, fun _ => rfl, Rep.tup [.bool false] [.bool false] rfl (RepL.cons (.bool _) (RepL.nil _)).2⟩
    simp only [Instr.next, rc, Sem.run_bind, hget, Result.andThen_ok, hsz, if_neg hlt, Sem.run_pure]

theorem keyEq_bits {X : RC} {a b : AV} {c d : Value} (h : keyEq a b = some true) (hc : Rep X a c) (hd : Rep X b d) (n : Nat) : Instr.sameBits n d c = true := by
  unfold keyEq at h
  split at h
  · rename_i a b
    cases hc; cases hd
    have : a = b := by simpa using h
    subst this
    have hb : ((⟨a.toArray⟩ : ByteArray) == ⟨a.toArray⟩) = true := by show ((a.toArray == a.toArray) : Bool) = true; simp
    cases n <;> simp only [Instr.sameBits, hb]
  · split at h
    · rename_i k a k' b hk
      subst hk
      cases hc; cases hd
      have : a = b := by simpa using h
      subst this
      cases n <;> simp [Instr.sameBits]
    · cases h
  · rename_i a b
    cases hc; cases hd
    have : a = b := by simpa using h
    subst this
    cases n <;> simp [Instr.sameBits]
  · cases h

theorem RepL.set {X : RC} : ∀ {cs : List AV} {vs : List Value} (i : Nat) {v : AV} {c : Value}, RepL X cs vs → Rep X v c → RepL X (cs.set i v) (vs.set i c)
  | [], vs, i, v, c, h, hv => by have := h.1; simp at this; subst this; simpa using h
  | x :: cs, vs, 0, v, c, h, hv => by
    obtain ⟨d, vs, rfl, h0, h1⟩ := h.uncons
    simpa using RepL.cons hv h1
  | x :: cs, vs, i + 1, v, c, h, hv => by
    obtain ⟨d, vs, rfl, h0, h1⟩ := h.uncons
    simpa using RepL.cons h0 (RepL.set i h1 hv)

theorem mapUpdate_ok (F : FS P G E f L s a w) {o : Oper} (hd : DstOk G f o a) {t : TypeId} {mo ko vo : Operand} (hop : o.op = .mapUpdate t mo ko vo) {x : Eff} (h : aMapUpdate P t s.heap (evalO G s.env mo) (evalO G s.env ko) (evalO G s.env vo) = some x) : Done P G E f L s o a w x := by
  unfold aMapUpdate at h
  split at h <;> try cases h
  rename_i kt et id hu hmo
  split at h <;> try cases h
  rename_i hc
  simp only [Bool.or_eq_true, Bool.not_eq_true', not_or, Bool.not_eq_false] at hc
  obtain ⟨hf, hsol⟩ := hc
  split at h <;> try cases h
  rename_i es hid
  have hm := (F.eval mo)
  rw [hmo] at hm
  have hm := hm.rep (by simp)
  have hk : Rep (rc E L (obOf s.env s.heap) s.heap.length w) (evalO G s.env ko) (a.eval ko) := by
    refine (F.eval ko).rep (fun b off he => ?_)
    rw [he] at hf
    simp only [keyFits] at hf
    split at hf <;> simp_all
  have hv := (F.eval vo).solid hsol
  generalize hmc : a.eval mo = mc at hm
  generalize hkc : a.eval ko = kc at hk
  generalize hvc : a.eval vo = vc at hv
  generalize hka : evalO G s.env ko = ka at hk hf h
  generalize hva : evalO G s.env vo = va at hv hsol h
  cases hm
  have hob : obOf s.env s.heap (.obj id) = some (.map es) := by simp [obOf, hid]
  have hidl := F.hs.idlt id _ hob
  obtain ⟨hnt, ents, clock, hblk, hk1, hv1⟩ := F.hs.objs _ _ hob
  replace hblk : w.heap[L.loc (.obj id)]? = some (.map ents clock) := hblk
  have hget := run_getObj' (P := P) hblk (by simp)
  obtain ⟨dk, hdk, hsh⟩ := keyShape hf hk
  obtain ⟨d', hd', hck, _⟩ := key_ok hf hk false
  split at h <;> try cases h
  · rename_i i v0 hfe
    obtain ⟨r', hfn, hcase⟩ := find_ok hk hsh hfe hk1 hv1
    rcases hcase with ⟨h1, _⟩ | ⟨j, v, u, h1, rfl, hvu, _, hjl, k', hj1, hj2⟩
    · cases h1
    cases h1
    simp only [Nat.sub_zero, Nat.zero_add] at hj1 hjl
    have hlen : ents.size = es.length := by have := hk1.1; simpa using this
    have hiu : i < ents.size := by omega
    have hkold : Rep (rc E L (obOf s.env s.heap) s.heap.length w) k' ents[i].key := by
      have := hk1.get? (i := i) (v := k') (by simp [hj1])
      obtain ⟨c, hc1, hc2⟩ := this
      simp only [List.getElem?_map, Array.getElem?_toList, Array.getElem?_eq_getElem hiu, Option.map_some, Option.some.injEq] at hc1
      rw [hc1]; exact hc2
    have hbits := keyEq_bits hj2 hk hkold 10000
    have hnew : (ents.modify i fun e => { e with key := kc, val := vc }).toList.map (·.key) = (ents.toList.map (·.key)).set i kc ∧ (ents.modify i fun e => { e with key := kc, val := vc }).toList.map (·.val) = (ents.toList.map (·.val)).set i vc := by
      constructor <;>
      · apply List.ext_getElem?
        intro q
        simp only [List.getElem?_map, Array.getElem?_toList, Array.getElem?_modify, List.getElem?_set, List.length_map, Array.length_toList]
        by_cases hq : i = q
        · subst hq; simp [hiu]
        · simp [hq]
    obtain ⟨ob1, ob2⟩ := obOf_set s.env s.heap id (.map (es.set i (ka, va))) hidl
    have hlen' : (s.heap.set id (some (AObj.map (es.set i (ka, va))))).length = s.heap.length := by simp
    have hset := run_setObj' (P := P) (o' := .map (ents.modify i fun e => { e with key := kc, val := vc }) clock) hblk (by simp) (by simp)
    obtain ⟨H, hp⟩ := F.hs.change (.obj id) hob (by simp) (o0 := .map (es.set i (ka, va))) (by simp) ob1 ob2 (w' := { w with heap := w.heap.setIfInBounds (L.loc (.obj id)) (.map (ents.modify i fun e => { e with key := kc, val := vc }) clock) }) (set_fr _)
      (fun hle => ⟨hnt, _, clock, set_at _ (F.hs.lt _ _ hob), by
        rw [hnew.1, List.map_set]
        exact (hk1.mono hle).set i (hk.mono hle), by
        rw [hnew.2, List.map_set]
        exact (hv1.mono hle).set i (hv.mono hle)⟩)
    have hx : (execOp a.eval o).run P w = .ok .skip { w with heap := w.heap.setIfInBounds (L.loc (.obj id)) (.map (ents.modify i fun e => { e with key := kc, val := vc }) clock) } := by
      have hrun' : (Instr.mapUpdate t (a.eval mo) (a.eval ko) (a.eval vo)).run P w = .ok () { w with heap := w.heap.setIfInBounds (L.loc (.obj id)) (.map (ents.modify i fun e => { e with key := kc, val := vc }) clock) } := by
        rw [hmc, hkc, hvc]
        simp [Instr.mapUpdate, run_und hu, rc, hget, hck, Instr.findKey, run_und hdk, hfn, hiu, Instr.keyThatStays, hbits, hset]
      simp [execOp, hop, hrun']
    exact done_heap F hd hx (.inr ⟨rfl, rfl⟩) (L' := L) (by rw [hlen']; exact H) (by rw [hlen']; exact hp) (fun _ _ _ => rfl) (.inl (.undef _))
  · rename_i hfe
    obtain ⟨r', hfn, hcase⟩ := find_ok hk hsh hfe hk1 hv1
    rcases hcase with ⟨_, rfl⟩ | ⟨j, v, u, h1, _⟩
    · obtain ⟨ob1, ob2⟩ := obOf_set s.env s.heap id (.map (es ++ [(ka, va)])) hidl
      have hlen' : (s.heap.set id (some (AObj.map (es ++ [(ka, va)])))).length = s.heap.length := by simp
      have hset := run_setObj' (P := P) (o' := .map (ents.push { key := kc, val := vc, born := clock }) (clock + 1)) hblk (by simp) (by simp)
      obtain ⟨H, hp⟩ := F.hs.change (.obj id) hob (by simp) (o0 := .map (es ++ [(ka, va)])) (by simp) ob1 ob2 (w' := { w with heap := w.heap.setIfInBounds (L.loc (.obj id)) (.map (ents.push { key := kc, val := vc, born := clock }) (clock + 1)) }) (set_fr _)
        (fun hle => ⟨hnt, _, clock + 1, set_at _ (F.hs.lt _ _ hob), by
          simp only [List.map_append, Array.toList_push]
          exact (hk1.mono hle).app (RepL.cons (hk.mono hle) (RepL.nil _)), by
          simp only [List.map_append, Array.toList_push]
          exact (hv1.mono hle).app (RepL.cons (hv.mono hle) (RepL.nil _))⟩)
      have hx : (execOp a.eval o).run P w = .ok .skip { w with heap := w.heap.setIfInBounds (L.loc (.obj id)) (.map (ents.push { key := kc, val := vc, born := clock }) (clock + 1)) } := by
        have hrun' : (Instr.mapUpdate t (a.eval mo) (a.eval ko) (a.eval vo)).run P w = .ok () { w with heap := w.heap.setIfInBounds (L.loc (.obj id)) (.map (ents.push { key := kc, val := vc, born := clock }) (clock + 1)) } := by
          rw [hmc, hkc, hvc]
          simp [Instr.mapUpdate, run_und hu, rc, hget, hck, Instr.findKey, run_und hdk, hfn, hset]
        simp [execOp, hop, hrun']
      exact done_heap F hd hx (.inr ⟨rfl, rfl⟩) (L' := L) (by rw [hlen']; exact H) (by rw [hlen']; exact hp) (fun _ _ _ => rfl) (.inl (.undef _))
    · cases h1
end
end Go.Proofs.YtdnhhdplcminlaaGreatDoor.AI
