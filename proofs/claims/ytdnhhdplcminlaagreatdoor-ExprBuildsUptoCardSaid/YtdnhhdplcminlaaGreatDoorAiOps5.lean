/- Structs built from parts; parts of structs; what lies behind a pointer. -/
import Derived.Test.YtdnhhdplcminlaaGreatDoorAiOps4
set_option maxHeartbeats 400000
set_option linter.unusedVariables false
set_option linter.unusedSimpArgs false
set_option linter.unusedSectionVars false
namespace Go.Proofs.YtdnhhdplcminlaaGreatDoor.AI
variable [Nu]
section
variable {P : Program} {X : RC} (w : World)

theorem cells_ok {v : AV} {c : Value} (h : Rep X v c) (hs : solid v = true) : RepC X (cellsOf v) c.cells.toList := by
  by_cases ha : ∃ cs, v = .agg cs
  · obtain ⟨cs, rfl⟩ := ha
    obtain ⟨vs, rfl, hr⟩ := h.agg_inv
    simpa [cellsOf, Value.cells] using hr
  · have e : cellsOf v = [v] := by
      cases v <;> first | rfl | exact absurd ⟨_, rfl⟩ ha
    rw [e]
    have e1 : c.cells = #[c] ∧ c.oneCell' = true := by
      cases h <;> first | exact ⟨rfl, rfl⟩ | (exfalso; revert hs; simp [solid]; done) | exact absurd ⟨_, rfl⟩ ha
    rw [e1.1]
    exact RepC.of (RepL.cons h (RepL.nil X)) (by simpa using e1.2)

theorem set_fold (off : Nat) : ∀ (us : List Value) (k : Nat) (cs : Array Value), off + k + us.length ≤ cs.size →
    (us.zipIdx k).foldl (fun (cs : Array Value) (p : Value × Nat) => cs.setIfInBounds (off + p.2) p.1) cs = (cs.toList.take (off + k) ++ us ++ cs.toList.drop (off + k + us.length)).toArray
  | [], k, cs, h => by simp
  | u :: us, k, cs, h => by
    simp only [List.zipIdx_cons, List.foldl_cons]
    rw [set_fold off us (k + 1) (cs.setIfInBounds (off + k) u) (by simpa using (by simp at h; omega))]
    simp only [List.length_cons] at h
    congr 1
    simp only [Array.toList_setIfInBounds, List.length_cons]
    have hlt : off + k < cs.toList.length := by simp; omega
    have e1 : (cs.toList.set (off + k) u).take (off + (k + 1)) = cs.toList.take (off + k) ++ [u] := by
      rw [List.take_set, ← Nat.add_assoc, List.take_succ_eq_append_getElem hlt, List.set_append]
      have hm : min (off + k) cs.size = off + k := by simp at hlt; omega
      simp [hm]
    have e2 : (cs.toList.set (off + k) u).drop (off + (k + 1) + us.length) = cs.toList.drop (off + k + (us.length + 1)) := by
      rw [List.drop_set_of_lt (by omega)]
      congr 1
      omega
    rw [e1, e2]
    simp

theorem RepC.splice {cs us : List AV} {vs ts : List Value} {off : Nat} (h : RepC X cs vs) (k : RepC X us ts) : RepC X (cs.take off ++ us ++ cs.drop (off + us.length)) (vs.take off ++ ts ++ vs.drop (off + ts.length)) := by
  refine RepC.of (((h.L.take off).app k.L).app (by rw [k.1]; exact h.L.drop _)) (fun v hv => ?_)
  simp only [List.mem_append] at hv
  rcases hv with (hv | hv) | hv
  · exact h.2.1 v (List.mem_of_mem_take hv)
  · exact k.2.1 v hv
  · exact h.2.1 v (List.mem_of_mem_drop hv)

/-- Parts, one by one. -/
def PRep (X : RC) : List (Nat × AV) → List (Nat × Value) → Prop
  | [], [] => True
  | (i, v) :: ps, (j, c) :: qs => i = j ∧ Rep X v c ∧ solid v = true ∧ PRep X ps qs
  | _, _ => False

theorem fill_ok {place : Nat → Option (Nat × Nat)} {place' : Nat → Option (Nat × Nat)} (hp : ∀ i, place i ≠ none → place' i = place i) : ∀ {ps : List (Nat × AV)} {qs : List (Nat × Value)} {cells : List AV} {vs : List Value} {cs : List AV},
    fillA place cells ps = some cs → RepC X cells vs → PRep X ps qs → ∃ us : List Value, Instr.fill place' vs.toArray qs = some us.toArray ∧ RepC X cs us
  | [], [], cells, vs, cs, h, hr, _ => by
    simp only [fillA] at h
    cases h
    exact ⟨vs, rfl, hr⟩
  | [], _ :: _, _, _, _, _, _, hq => hq.elim
  | _ :: _, [], _, _, _, _, _, hq => by cases ‹Nat × AV›; exact hq.elim
  | (i, v) :: ps, (j, c) :: qs, cells, vs, cs, h, hr, hq => by
    obtain ⟨rfl, hv, hs, hq⟩ := hq
    simp only [fillA] at h
    split at h <;> try cases h
    rename_i off size hpl
    split at h <;> try cases h
    rename_i hsz
    split at h <;> try cases h
    rename_i cs1 hsp
    unfold splice at hsp
    split at hsp <;> try cases hsp
    rename_i hle
    have hc := cells_ok hv hs
    have hlen : c.cells.size = (cellsOf v).length := by rw [← Array.length_toList]; exact hc.1
    obtain ⟨us, he, hu⟩ := fill_ok hp h (hr.splice (off := off) hc) hq
    refine ⟨us, ?_, hu⟩
    have hsz' : (cellsOf v).length = size := by simpa using hsz
    simp only [Instr.fill, hp i (by rw [hpl]; simp), hpl]
    rw [if_neg (by
      have := hr.1
      simp only [Bool.or_eq_true, decide_eq_true_eq, List.size_toArray, ne_eq, hlen, hsz', not_true_eq_false, false_or]
      omega)]
    rw [← he]
    congr 1
    have hf := set_fold off c.cells.toList 0 vs.toArray (by simp [hr.1, hlen]; omega)
    rw [← Array.foldl_toList, Array.toList_zipIdx]
    simpa using hf

theorem run_zero {t : TypeId} {z : AV} (h : zeroOf P t = some z) : ∃ c, (zeroValue t).run P w = .ok c w ∧ z = ofVal c ∧ Rep X z c := by
  unfold zeroOf at h
  obtain ⟨c, hc, rfl⟩ := Option.map_eq_some_iff.1 h
  obtain ⟨i, hi, hz⟩ := Option.bind_eq_some_iff.1 hc
  exact ⟨c, by simp [zeroValue, typeInfo, hi, hz], rfl, rep_ofVal X c⟩

theorem run_places : ∀ (fs : List Field), (∀ f ∈ fs, (szOf P f.type).isSome = true) → (fs.mapM fun f => do pure (f.offset, ← sizeOf f.type) : Sem (List (Nat × Nat))).run P w = .ok (fs.map fun f => (f.offset, (szOf P f.type).getD 0)) w
  | [], _ => by simp
  | f :: fs, h => by
    obtain ⟨n, hn⟩ := Option.isSome_iff_exists.1 (h f (by simp))
    have ih := run_places fs (fun g hg => h g (by simp [hg]))
    simp only [List.mapM_cons, Sem.run_bind, run_size hn, Result.andThen_ok, Sem.run_pure, ih, List.map_cons, hn, Option.getD_some]

theorem build_ok {t : TypeId} {ps : List (Nat × AV)} {qs : List (Nat × Value)} {v : AV} (h : aBuild P t ps = some v) (hq : PRep X ps qs) : ∃ u, (Instr.build t qs.toArray).run P w = .ok u w ∧ Rep X v u := by
  unfold aBuild at h
  split at h
  · rename_i z fs hz hu
    split at h <;> try cases h
    rename_i hc
    obtain ⟨cs, hf, rfl⟩ := Option.map_eq_some_iff.1 h
    obtain ⟨c, hrun, _, hr⟩ := run_zero (X := X) w hz
    simp only [Bool.or_eq_true, Bool.not_eq_true', not_or, Bool.not_eq_false] at hc
    have hall : ∀ f ∈ fs.toList, (szOf P f.type).isSome = true := fun f hf => List.all_eq_true.1 hc.1 f hf
    have hcell := cells_ok hr hc.2
    obtain ⟨us, he, hus⟩ := fill_ok (place' := ((fs.toList.map fun f => (f.offset, (szOf P f.type).getD 0)).toArray[·]?)) (fun i hi => by
      simp only [ne_eq] at hi
      cases hfi : fs[i]? with
      | none => simp [hfi] at hi
      | some fd =>
        have hm : fd ∈ fs.toList := by
          obtain ⟨hlt, hge⟩ := Array.getElem?_eq_some_iff.1 hfi
          rw [← hge]; simp
        obtain ⟨n, hn⟩ := Option.isSome_iff_exists.1 (hall fd hm)
        simp [hfi, hn]) hf hcell hq
    refine ⟨.agg us.toArray, ?_, .agg cs us hus.1 hus.2.1 hus.2.2⟩
    have hpl := run_places (P := P) w fs.toList hall
    simp only [Instr.build, Sem.run_bind, hrun, Result.andThen_ok, run_und hu, Array.mapM_eq_mapM_toList, Sem.run_map, hpl]
    simp only [Array.toArray_toList] at he
    rw [he]
    simp
  · rename_i z n e hz hu
    split at h <;> try cases h
    rename_i sz hs
    split at h <;> try cases h
    rename_i hsol
    obtain ⟨cs, hf, rfl⟩ := Option.map_eq_some_iff.1 h
    obtain ⟨c, hrun, _, hr⟩ := run_zero (X := X) w hz
    have hcell := cells_ok hr (by simpa using hsol)
    obtain ⟨us, he, hus⟩ := fill_ok (place' := fun i => some (i * sz, sz)) (fun i _ => rfl) hf hcell hq
    refine ⟨.agg us.toArray, ?_, .agg cs us hus.1 hus.2.1 hus.2.2⟩
    simp only [Array.toArray_toList] at he
    simp [Instr.build, hrun, run_und hu, run_size hs, he]
  · cases h

theorem field_ok {t : TypeId} {fs : Array Field} {i : Nat} {fd : Field} {cs : List AV} {c : Value} {v : AV} (hu : P.underlying t = some (.struct fs)) (hf : fs[i]? = some fd) (h : partV P fd.type cs fd.offset = some v) (hx : Rep X (.agg cs) c) :
    ∃ u, (Instr.field t c i).run P w = .ok u w ∧ Rep X v u := by
  obtain ⟨vs, rfl, hr⟩ := hx.agg_inv
  obtain ⟨u, hu', hr'⟩ := part_ok w h hr
  exact ⟨u, by simp [Instr.field, run_und hu, hf, asAgg, hu'], hr'⟩

theorem extract_ok {vs : List AV} {i : Nat} {v : AV} {c : Value} (h : vs[i]? = some v) (hx : Rep X (.tup vs) c) : ∃ u, (Instr.extract c i).run P w = .ok u w ∧ Rep X v u := by
  obtain ⟨us, rfl, hr⟩ := hx.tup_inv
  obtain ⟨u, hu, hr'⟩ := hr.get? h
  exact ⟨u, by simp [Instr.extract, hu], hr'⟩
end
end Go.Proofs.YtdnhhdplcminlaaGreatDoor.AI
